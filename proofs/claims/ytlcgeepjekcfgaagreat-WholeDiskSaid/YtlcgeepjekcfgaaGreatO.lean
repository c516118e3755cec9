/- Reading a chain. -/
import Derived.Test.YtlcgeepjekcfgaaGreatN
namespace Go.Proofs.YtlcgeepjekcfgaaGreat
open Go.RowKit
set_option linter.unusedVariables false
set_option linter.unusedSimpArgs false


theorem BuR.kt {n0 b : Nat} {w w' : World} {s : Bs} {S : Nat → Prop} (h : BuR n0 w b s) (hk : Kt S w w') (h1 : ¬ S b) (h2 : ∀ k, n0 ≤ k → ¬ S k) : BuR n0 w' b s := by
  obtain ⟨p, v, hp, hb, ho⟩ := h
  refine ⟨p, v, hp, hk.at hb h1, hk.own ho (fun k hk' => h2 k ?_)⟩
  rcases ho.2 with ⟨rfl, _⟩ | ⟨g, cap, cur, rfl, hg, _⟩
  · cases hk'
  · cases hk'; exact hg
theorem BuR.kt0 {n0 b : Nat} {w w' : World} {s : Bs} (h : BuR n0 w b s) (hk : Kt No w w') : BuR n0 w' b s := h.kt hk id (fun _ _ => id)
theorem BuR.new {n0 b : Nat} {w : World} (hb : w.heap[b]? = some (.cells #[.pointer none, .slice none 0 0] 108 (0, 0))) : BuR n0 w b [] := ⟨_, _, .inl rfl, hb, by simp, .inl ⟨rfl, rfl⟩⟩
theorem Sl.ne {w : World} {e sz n k : Nat} {v : Value} {xs : List Value} {o : Obj} (h : Sl w e sz v n xs) (ho : w.heap[k]? = some o) (hne : ∀ c f, o ≠ .cells c e f) : v.ownBlock = some k → n ≠ 0 → False := by
  intro hv hn
  obtain ⟨_, p, cap, rfl, _, _, h4⟩ := h
  rcases h4 with h4 | ⟨b, off, cs, fr, rfl, hb, _⟩
  · exact hn h4
  · cases hv
    rw [hb] at ho; cases ho; exact hne _ _ rfl
theorem MapR.obj {κ : Type} {enc : κ → Value} {w : World} {b : Nat} {m : List (κ × Value)} (h : MapR enc w b m) : ∃ es c, w.heap[b]? = some (.map es c) := by obtain ⟨es, c, h, _⟩ := h; exact ⟨es, c, h⟩

/-- What reading a chain has gathered. -/
def RdJ (n0 l b0 b8 b9 : Nat) (rec : Loop) (xs : List (Nat × Bs)) (W : World) : Prop :=
  n0 ≤ W.heap.size ∧ W.heap[l]? = some (.loop rec) ∧ W.heap[b0]? = some (.deferred (some [])) ∧ BuR n0 W b8 (xs.map (·.2)).flatten ∧ (xs.map (·.2)).flatten.length ≤ xs.length * 57 ∧
  ∃ v, W.heap[b9]? = some (.cells #[v] 48 (0, 0)) ∧ W.ownsRow 0 3 1 v xs.length (xs.map fun x => natv x.1) ∧ ∀ k, v.ownBlock = some k → n0 ≤ k
theorem RdJ.kt {n0 l b0 b8 b9 : Nat} {rec : Loop} {xs : List (Nat × Bs)} {W W' : World} {S : Nat → Prop} (h : RdJ n0 l b0 b8 b9 rec xs W) (hk : Kt S W W') (h1 : ¬ S l) (h2 : ¬ S b0) (h3 : ¬ S b8) (h4 : ¬ S b9) (h5 : ∀ k, n0 ≤ k → ¬ S k) : RdJ n0 l b0 b8 b9 rec xs W' := by
  obtain ⟨a1, a2, a3, a4, a5, v, a6, a7, a8⟩ := h
  exact ⟨Nat.le_trans a1 hk.size, hk.at a2 h1, hk.at a3 h2, a4.kt hk h3 h5, a5, v, hk.at a6 h4, hk.own a7 (fun k hk' => h5 k (a8 k hk')), a8⟩

def flatP (xs : List (Nat × Bs)) : Bs := (xs.map (·.2)).flatten
def readP (pages : List Bs) (met : List Nat) (k size : Nat) : Option (Bs × List Nat × List Nat) :=
  match chainP pages met k with
  | none => none
  | some (xs, met') => if (flatP xs).length = size then some (flatP xs, xs.map (·.1), met') else none

/-- The disk that is read: its pages, what was met. -/
structure DiR (d m : Nat) (p : Option Addr) (cap : Nat) (pages : List Bs) (met : List Nat) (w : World) : Prop where
  hd : w.heap[d]? = some (.cells #[.slice p 256 cap, .map (some m)] 88 (0, 0))
  hpg : Sl w 9 1 (.slice p 256 cap) 256 (pages.map str)
  hmp : MapR i64v w m (metV met)
theorem natv_cells (n : Nat) : (natv n).cells.toList = [natv n] := rfl
theorem natv_one (n : Nat) : ∀ u ∈ (natv n).cells.toList, u.oneCell' = true := by intro u hu; rw [natv_cells] at hu; simp at hu; subst hu; rfl
theorem own_bk {n0 b : Nat} {w w' : World} {base e sz n : Nat} {v : Value} {xs : List Value} (h : w.ownsRow base e sz v n xs) (hk : Bk n0 b w w') (he : e ≠ 5) (hb : v.ownBlock ≠ some b) : w'.ownsRow base e sz v n xs := by
  refine ⟨h.1, ?_⟩
  rcases h.2 with h0 | ⟨g, cap, cur, rfl, hb0, hg, rest⟩
  · exact .inl h0
  · exact .inr ⟨g, cap, cur, rfl, hb0, hk.keep g _ hg (fun e => hb (by rw [← e]; rfl)) (by intro c f h; cases h; exact he rfl), rest⟩
theorem BuR.own22 {n0 b : Nat} {w w' : World} {s : Bs} {v : Value} {base e sz n : Nat} {xs : List Value} (h : BuR n0 w b s) (hk : Kt (fun k => v.ownBlock = some k) w w') (ho : w.ownsRow base e sz v n xs) (he : e ≠ 5) (hb : v.ownBlock ≠ some b) : BuR n0 w' b s := by
  obtain ⟨p, u, hp, hc, hr⟩ := h
  refine ⟨p, u, hp, hk.at hc hb, hk.own hr (fun k h1 h2 => ?_)⟩
  rcases hr.2 with ⟨rfl, _⟩ | ⟨g, cap, cur, rfl, _, hg, _⟩
  · cases h1
  · cases h1
    exact own_ne ho hg (by intro c f h; cases h; exact he rfl) h2
theorem chainP_len : ∀ {pages : List Bs} {met : List Nat} {k : Nat} {xs : List (Nat × Bs)} {met1 : List Nat}, chainP pages met k = some (xs, met1) → xs.length ≤ 256 := by
  have key : ∀ (n : Nat) (pages : List Bs) (met : List Nat) (k : Nat) (xs : List (Nat × Bs)) (met1 : List Nat), unmet met ≤ n → chainP pages met k = some (xs, met1) → xs.length ≤ n := by
    intro n
    induction n with
    | zero =>
      intro pages met k xs met1 hn h
      rw [chainP] at h
      split at h
      · cases h; simp
      · split at h
        · rename_i hc
          have := unmet_snoc hc.1.2 hc.2
          omega
        · cases h
    | succ n ih =>
      intro pages met k xs met1 hn h
      rw [chainP] at h
      split at h
      · cases h; simp
      · split at h
        · rename_i hc
          split at h
          · rw [Option.map_eq_some_iff] at h
            obtain ⟨⟨ys, m2⟩, h1, h2⟩ := h
            cases h2
            have h3 := unmet_snoc hc.1.2 hc.2
            have h4 := ih _ _ _ _ _ (by omega) h1
            simp; omega
          · cases h
        · cases h
  intro pages met k xs met1 h
  exact key 256 pages met k xs met1 (unmet_le met) h
theorem own_ok {b : Nat} {w w' : World} {base e sz n : Nat} {v : Value} {xs : List Value} (h : w.ownsRow base e sz v n xs) (hk : Lib.OthersKept 5 (some b) w w') (he : e ≠ 5) (hb : v.ownBlock ≠ some b) : w'.ownsRow base e sz v n xs := by
  refine ⟨h.1, ?_⟩
  rcases h.2 with h0 | ⟨g, cap, cur, rfl, hb0, hg, rest⟩
  · exact .inl h0
  · exact .inr ⟨g, cap, cur, rfl, hb0, hk g _ hg (fun e => hb (by cases e; rfl)) (by intro c f h; cases h; exact he rfl), rest⟩
theorem kt_below {b : Nat} {w w' : World} (h : Below b w w') : Kt (fun k => b ≤ k) w w' := ⟨h.os, h.tape, h.output, h.size, fun k hk hn => h.block k (by omega)⟩
theorem String_calls (b : Nat) (s : Bs) (n0 : Nat) (w : World) (h : BuR n0 w b s) (hn : b ≤ n0) : Calls P 54 [.pointer (some ⟨b, 0, none⟩)].toArray w (Ret fun v w' => v = str s ∧ Lib.IsBuilderF 108 5 b b (Lib.byteCells s) w' ∧ Below b w w' ∧ Lib.OthersKept 5 (some b) w w') := by
  obtain ⟨p, v, hp, hb, ho⟩ := h
  have ho' : w.ownsRow b 5 1 v (Lib.byteCells s).length (Lib.byteCells s) := by
    have e : Lib.byteCells s = s.map byteV := by simp [Lib.byteCells]
    rw [e, List.length_map]
    refine ⟨ho.1, ?_⟩
    rcases ho.2 with h | ⟨g, cap, cur, h1, h2, h3⟩
    · exact .inl h
    · exact .inr ⟨g, cap, cur, h1, Nat.le_trans hn h2, h3⟩
  have hB : Lib.IsBuilder 108 5 b b (Lib.byteCells s) w := by
    have hne := own_ne ho hb (by intro c f h; cases h)
    rcases hp with rfl | rfl
    · exact .inl ⟨Nat.le_refl _, v, hb, ho', hne⟩
    · exact .inr ⟨Nat.le_refl _, v, hb, ho', hne⟩
  exact Calls.mono (Tryz.Builder_String_any_k b b s w (Lib.IsBuilderF.of hB) (Nat.le_of_lt (blk_lt hb))) fun e w' ⟨he, h1, h2, h3⟩ => by
    subst he
    exact ⟨rfl, h1, h2, h3⟩
theorem Len_calls (b : Nat) (s : Bs) (n0 : Nat) (w : World) (h : BuR n0 w b s) (hn : b ≤ n0) : Calls P 55 [.pointer (some ⟨b, 0, none⟩)].toArray w (Ret fun v w' => v = natv s.length ∧ w' = w) := by
  obtain ⟨p, v, hp, hb, ho⟩ := h
  have ho' : w.ownsRow b 5 1 v (s.map byteV).length (s.map byteV) := by
    rw [List.length_map]
    refine ⟨ho.1, ?_⟩
    rcases ho.2 with h | ⟨g, cap, cur, h1, h2, h3⟩
    · exact .inl h
    · exact .inr ⟨g, cap, cur, h1, Nat.le_trans hn h2, h3⟩
  have hB : Lib.IsBuilder 108 5 b b (s.map byteV) w := by
    have hne := own_ne ho hb (by intro c f h; cases h)
    rcases hp with rfl | rfl
    · exact .inl ⟨Nat.le_refl _, v, hb, ho', hne⟩
    · exact .inr ⟨Nat.le_refl _, v, hb, ho', hne⟩
  exact Calls.mono (Tryz.Builder_Len_f b b (s.map byteV) w (Lib.IsBuilderF.of hB)) fun e w' ⟨he, h1⟩ => by
    subst he
    exact ⟨by simp [natv], h1⟩

theorem chain_calls (d k : Nat) (w : World) : Calls P 65 [.pointer (some ⟨d, 0, none⟩), natv k].toArray w (Ret fun v w' => ∃ ab db, v = .func (.func 80) #[] #[.pointer (some ⟨ab, 0, none⟩), .pointer (some ⟨db, 0, none⟩)] ∧ Kt No w w' ∧ w.heap.size ≤ ab ∧ w.heap.size ≤ db ∧ w'.heap[ab]? = some (.cells #[natv k] 3 (0, 0)) ∧ w'.heap[db]? = some (.cells #[.pointer (some ⟨d, 0, none⟩)] 85 (0, 0))) := by
  refine enterW 6 Tryz.func65 rfl rfl rfl ?_
  refine W.seq ?_
  -- region 0 (layout.go:110)
  refine W.region ?_
  refine Run.step rfl (Stp.box rfl rfl ?_)   -- t2
  intro a2 w2 e2 k2 b2 z2
  refine Run.step rfl (Stp.box rfl rfl ?_)   -- t3
  intro a3 w3 e3 k3 b3 z3
  replace b2 := k3.at0 b2
  refine Run.ev (Ev.assign rfl) rfl rfl ?_   -- t4
  refine Run.nil ?_
  refine At.then ?_
  refine W.seq ?_
  -- region 1 (layout.go:111)
  refine W.region ?_
  refine Run.ev (Ev.mkfunc rfl) rfl rfl ?_   -- t5
  refine Run.ev (Ev.assign rfl) rfl rfl ?_   -- t4
  refine Run.nil ?_
  refine At.then ?_
  refine W.ret ?_
  exact At.ret1 rfl rfl rfl ⟨a3, a2, rfl, k2.no k3, by omega, by omega, b3, b2⟩

theorem read_calls (d m : Nat) (p : Option Addr) (cap : Nat) (pages : List Bs) (met : List Nat) (k size : Nat) (w : World) (hD : DiR d m p cap pages met w) (h64 : ∀ s ∈ pages, s.length = 64) (hl : pages.length = 256) :
    Calls P 38 [.pointer (some ⟨d, 0, none⟩), natv k, natv size].toArray w (RetO (fun i => i = m) w (readP pages met k size) fun r v w' => ∃ pv, v = .tuple #[str r.1, pv] ∧ Sl w' 3 1 pv r.2.1.length (r.2.1.map natv) ∧ MapR i64v w' m (metV r.2.2) ∧ Kt (fun i => i = m) w w') := by
  refine enterM 29 Tryz.func38 rfl rfl rfl ?_
  refine W.seq ?_
  -- region 0 (layout.go:129)
  refine W.region ?_
  refine Run.ev (Ev.assign rfl) rfl rfl ?_   -- t6
  refine Run.ev (Ev.assign rfl) rfl rfl ?_   -- t7
  refine Run.nil ?_
  refine At.then ?_
  refine W.seq ?_
  -- region 1 (layout.go:130)
  refine W.region ?_
  refine Run.step rfl (Stp.alloc zc_108 rfl ?_)   -- t8
  intro a8 w8 e8 k8 b8 z8
  refine Run.nil ?_
  refine At.then ?_
  refine W.seq ?_
  -- region 2 (layout.go:131)
  refine W.region ?_
  refine Run.step rfl (Stp.alloc zc_48 rfl ?_)   -- t9
  intro a9 w9 e9 k9 b9 z9
  replace b8 := k9.at0 b8
  refine Run.nil ?_
  refine At.then ?_
  refine W.seq ?_
  refine W.seq ?_
  -- region 3 (layout.go:132)
  refine W.region ?_
  refine Run.ev (Ev.move rfl) rfl rfl ?_   -- t12
  refine Run.ev (Ev.move rfl) rfl rfl ?_   -- t13
  refine Run.step rfl (Stp.callr en_65 rfl (chain_calls d k _) rfl ?_)   -- t14
  rintro v14 w14 ⟨ab, db, rfl, k14, hab0, hdb0, hab, hdb⟩
  replace b8 := k14.at0 b8
  replace b9 := k14.at0 b9
  refine Run.nil ?_
  refine At.then ?_
  refine W.block ?_
  refine W.rangeFunc rfl en_80 (fun fn tmps rec W0 hfit hrec k15 hl0 hd0 z15 => ?_)
  have hall : Kt No w W0 := ((k8.no k9).no k14).no k15
  have s1 := k14.size
  have hab1 := blk_lt hab
  have hdb1 := blk_lt hdb
  have hF0 : ChF ab db d m p cap pages k W0 := ⟨k15.at0 hab, k15.at0 hdb, hall.at0 hD.hd, hD.hpg.kt0 hall⟩
  have hml := hD.hmp.lt
  have hdl := blk_lt hD.hd
  have hrs : ∀ i, i < w.heap.size ∨ (w9.heap.size ≤ i ∧ i ≤ w14.heap.size) → ¬ (i = w14.heap.size + 1 ∨ i = a8 ∨ i = a9) := fun i hi h => by omega
  refine Calls.mono (chain1_calls (J := RdJ W0.heap.size (w14.heap.size + 1) w14.heap.size a8 a9 rec) (RS := fun i => i = w14.heap.size + 1 ∨ i = a8 ∨ i = a9) (w14.heap.size + 1) ab db d m p cap pages met k W0 hF0 (hD.hmp.kt0 hall) h64 hl
    ⟨hrs _ (by omega), hrs _ (by omega), hrs _ (by omega), hrs _ (by omega)⟩ ?_ (fun xs W W' hj hk => hj.kt hk (by omega) (by omega) (by omega) (by omega) (fun i hi h => by omega)) ⟨Nat.le_refl _, hl0, hd0, BuR.new (k15.at0 b8), by simp, _, k15.at0 b9, ⟨by simp, .inl ⟨rfl, rfl⟩⟩, fun i h => by cases h⟩ ?_) ?_
  · intro b o e
    subst e
    have hbl := hD.hpg.lt0 (by omega)
    exact ⟨fun e => by subst e; obtain ⟨es, c, ho⟩ := hD.hmp.obj; exact hD.hpg.ne ho (by intro c f h; cases h) rfl (by omega), by omega, hrs _ (by omega)⟩
  · intro xs k0 data W3 hJ hkW hxl hdata hk256
    obtain ⟨j1, jl, jd, jb, jlen, v9, jc, jo, jf⟩ := hJ
    refine yield_at hrec jl hfit rfl rfl ?_
    refine W.seq ?_
    -- region 4 (layout.go:132)
    refine W.region ?_
    refine Run.ev (Ev.assign rfl) rfl rfl ?_   -- t10
    refine Run.nil ?_
    refine At.then ?_
    -- region 5 (layout.go:132)
    refine W.region ?_
    refine Run.ev (Ev.assign rfl) rfl rfl ?_   -- t11
    refine Run.nil ?_
    refine At.begin rfl jl (by rw [hrec]; rfl) ?_
    have kb := kt_put W3 (w14.heap.size + 1) (.loop { rec with state := .busy })
    have jl1 := put_same (o := .loop { rec with state := .busy }) jl
    generalize W3.putObj (w14.heap.size + 1) (.loop { rec with state := .busy }) = W1 at kb jl1 ⊢
    have jb1 := jb.kt kb (by omega) (fun i hi => by omega)
    have jc1 := kb.at jc (by omega)
    have jd1 := kb.at jd (by omega)
    have jo1 := kb.own jo (fun i hi => by have := jf i hi; omega)
    have hfl : (flatP xs).length ≤ 15000 := by unfold flatP; omega
    refine W.block ?_
    refine W.seq ?_
    -- region 6 (layout.go:133)
    refine W.region ?_
    refine Run.ev (Ev.move rfl) rfl rfl ?_   -- t17
    refine Run.step rfl (Stp.callr en_52 rfl (WriteString_calls W0.heap.size a8 (flatP xs) data _ jb1 (Nat.le_trans j1 kb.size) (by omega)) rfl ?_)   -- t18
    rintro v18 w18 ⟨hb18, hk18⟩
    have jl2 := hk18.keep _ _ jl1 (by omega) (by intro c f h; cases h)
    have jd2 := hk18.keep _ _ jd1 (by omega) (by intro c f h; cases h)
    have jc2 := hk18.keep _ _ jc1 (by omega) (by intro c f h; cases h)
    have jo2 := own_bk jo1 hk18 (by decide) (fun h => by have := jf _ h; omega)
    refine Run.nil ?_
    refine At.then ?_
    -- region 7 (layout.go:134)
    refine W.region ?_
    refine Run.ev (Ev.load sc_48 rfl (cell_of jc2 rfl)) rfl rfl ?_   -- t19
    refine Run.ev (Ev.move rfl) rfl rfl ?_   -- t20
    refine Run.step rfl (Stp.bslice1 Tryz.underlying48 ei_3 rfl (by decide) (by decide) rfl rfl rfl ?_)   -- t21
    intro a21 w21 e21 k21 b21 z21
    refine Run.step rfl (Stp.append (n := xs.length) (m := 1) Tryz.underlying48 ei_3 rfl (by decide) rfl rfl (k21.own0 jo2) b21 (natv_one _) (by omega) (by omega) rfl ?_)   -- t22
    intro v22 w22 o22 k22 n22
    have n9 : ∀ i, v9.ownBlock = some i → W0.heap.size ≤ i := jf
    have jc3 := k22.at (k21.at0 jc2) (fun h => by have := jf _ h; omega)
    have jl3 := k22.at (k21.at0 jl2) (fun h => by have := jf _ h; omega)
    have jd3 := k22.at (k21.at0 jd2) (fun h => by have := jf _ h; omega)
    have jb3 := hb18.kt0 k21
    have s2 := hk18.kt.size
    have s3 := k21.size
    have s4 := kb.size
    refine Run.step rfl (Stp.store sc_48 sz_48 rfl rfl (own_one o22) jc3 (by simp) ?_)   -- tNone
    intro wS kS bS zS
    have jl4 := kS.at jl3 (by omega)
    have jd4 := kS.at jd3 (by omega)
    refine Run.nil ?_
    refine At.block ?_
    have hre : ({ { rec with state := .busy } with state := .ready, pending := none } : Loop) = rec := by rw [hrec]; rfl
    have kf := kt_put wS (w14.heap.size + 1) (.loop { { rec with state := .busy } with state := .ready, pending := none })
    have jl5 := put_same (o := .loop { { rec with state := .busy } with state := .ready, pending := none }) jl4
    refine At.endRound jl4 ⟨rfl, ?_, ?_⟩
    · generalize wS.putObj (w14.heap.size + 1) (.loop { { rec with state := .busy } with state := .ready, pending := none }) = W5 at kf jl5 ⊢
      rw [hre] at jl5
      have n22b : ∀ i, v22.ownBlock = some i → W0.heap.size ≤ i := fun i h => (n22 i h).elim (jf i) (fun h => by omega)
      refine ⟨by have := k22.size; have := kS.size; have := kf.size; omega, jl5, kf.at jd4 (by omega), ?_, ?_, v22, kf.at bS (by omega), ?_, n22b⟩
      · have h1 := (jb3.own22 k22 (k21.own0 jo2) (by decide) (fun h => by have := jf _ h; omega)).kt kS (by omega) (fun i hi => by omega)
        have h2 := h1.kt kf (by omega) (fun i hi => by omega)
        simpa [flatP] using h2
      · have e : (((xs ++ [(k0, data)]).map (·.2)).flatten).length = ((xs.map (·.2)).flatten).length + data.length := by simp [List.length_append]
        rw [e, List.length_append, List.length_singleton]; omega
      · have h1 := kf.own (kS.own o22 (fun i h => by have := n22b i h; omega)) (fun i h => by have := n22b i h; omega)
        simpa [natv_cells] using h1
    · have c1 : Kt (fun i => (i = w14.heap.size + 1 ∨ i = a8 ∨ i = a9) ∨ W0.heap.size ≤ i) W3 W1 := kb.mono (fun i _ h => .inl (.inl h))
      have c2 := c1.trans hk18.kt (fun i _ h => by rcases h with h | h; exact .inl (.inr (.inl h)); exact .inr h)
      have c3 := (c2.no k21).trans k22 (fun i _ h => .inr (jf i h))
      have c4 := c3.trans kS (fun i _ h => .inl (.inr (.inr h)))
      exact c4.trans kf (fun i _ h => .inl (.inl h))
  intro e w16 he
  have hkw : ∀ w', Kt (fun i => (i = m ∨ i = ab) ∨ (i = w14.heap.size + 1 ∨ i = a8 ∨ i = a9)) W0 w' → Kt (fun i => i = m) w w' := fun w' hk => Kt.trans (S := fun i => i = m) (hall.mono (fun _ _ e => e.elim)) hk (fun i hi e => by show i = m; omega)
  cases e with
  | outgrown => exact he.elim
  | panicked c =>
    obtain ⟨hr, rfl, hk⟩ := he
    show At _ _ (.panic brk) _ _
    (repeat (first | with_reducible apply At.then_panic | with_reducible apply At.block_panic))
    exact At.panM rfl (hk.at hd0 (by omega)) ⟨by rw [readP, hr], rfl, (hkw _ hk).new (kt_put _ _ _) (by rintro i rfl; omega)⟩
  | returned v =>
  obtain ⟨xs, met1, hr, hJx, hk, hmp1⟩ := he
  obtain ⟨j1, jl, jd, jb, jlen, v9, jc, jo, jf⟩ := hJx
  refine ⟨rec, jl, by rw [hrec]; rfl, by rw [hrec]; rfl, ?_⟩
  have kx := kt_put w16 (w14.heap.size + 1) (.loop { rec with state := .exhausted })
  generalize w16.putObj (w14.heap.size + 1) (.loop { rec with state := .exhausted }) = w17 at kx ⊢
  have kw17 : Kt (fun i => i = m) w w17 := (hkw _ hk).new kx (by rintro i rfl; omega)
  have jb2 := jb.kt kx (by omega) (fun i hi => by omega)
  have jc2 := kx.at jc (by omega)
  have jd2 := kx.at jd (by omega)
  have jo2 := kx.own jo (fun i hi => by have := jf i hi; omega)
  have hmp2 := hmp1.kt kx (by omega)
  have hJl : xs.length ≤ 256 := chainP_len hr
  have hfl : (flatP xs).length ≤ 15000 := by unfold flatP; omega
  refine At.block ?_
  refine At.then ?_
  refine W.seq ?_
  -- region 8 (layout.go:136)
  refine W.region ?_
  refine Run.step rfl (Stp.callr en_55 rfl (Len_calls a8 (flatP xs) W0.heap.size _ jb2 (by omega)) rfl ?_)   -- t23
  rintro v23 w23 ⟨rfl, rfl⟩
  refine Run.ev (Ev.move rfl) rfl rfl ?_   -- t24
  refine Run.ev (Ev.eql rfl rfl rfl) rfl rfl ?_   -- t25
  refine Run.step rfl (Stp.callo en_41 rfl (need_calls _ _) rfl (fun hn w' kk => by (repeat (first | with_reducible apply At.then_panic | with_reducible apply At.block_panic)); exact At.panM rfl (kk.at0 jd2) ⟨by rw [readP, hr]; simp at hn; simp; omega, rfl, (kw17.no kk).new (kt_put _ _ _) (by rintro i rfl; omega)⟩) ?_)   -- t26
  rintro x26 v26 w26 hn rfl
  have hsz : (flatP xs).length = size := by simp at hn; omega
  refine Run.nil ?_
  refine At.then ?_
  refine W.seq ?_
  refine W.mid (fun (_ : Unit) => [(6, str (flatP xs)), (7, v9)]) (fun _ w' => Kt (fun i => i = m) w w' ∧ Sl w' 3 1 v9 xs.length (xs.map fun x => natv x.1) ∧ MapR i64v w' m (metV met1) ∧ w'.heap[w14.heap.size]? = some (.deferred (some []))) ?_ ?_
  · refine W.draw (fun w' => w'.heap[a9]? = some (.cells #[v9] 48 (0, 0))) [(1, true), (0, false), (2, true), (3, true)] PQ.mid (by kernel_rfl) (by kernel_rfl) (by kernel_rfl) rfl ?_
    have kdr := (Kt.refl No w26).drew
    refine RunD.ev rfl (fun w' hS => Ev.load sc_48 rfl (cell_of hS rfl)) jc2 rfl rfl ?_
    refine RunD.step rfl rfl (Stp.callr en_54 rfl (String_calls a8 (flatP xs) W0.heap.size _ (jb2.kt0 kdr) (by omega)) rfl ?_)
    rintro v27 w27 ⟨rfl, hib, hbl, hok⟩
    have jc3 := hok a9 _ jc2 (by intro h; cases h; omega) (by intro c f h; cases h)
    refine ⟨jc3, ?_⟩
    refine RunD.ev rfl (fun w' hS => Ev.assign rfl) jc3 rfl rfl ?_
    refine RunD.ev rfl (fun w' hS => Ev.assign rfl) jc3 rfl rfl ?_
    refine RunD.nil (fun a ha => ⟨rfl, (), ha.weak (Env.sub_cons rfl (Env.sub_cons rfl (Env.sub_nil _))), ?_, ?_, ?_, ?_⟩)
    · exact (kw17.no kdr).new (kt_below hbl) (fun i hi => by omega)
    · exact Sl.of_own (own_ok jo2 hok (by decide) (fun h => by have := jf _ h; omega))
    · exact (hmp2.kt0 kdr).kt (kt_below hbl) (by omega)
    · exact hok _ _ jd2 (by intro h; cases h; omega) (by intro c f h; cases h)
  rintro _ w28 ⟨kw, hsl, hmp3, hdf⟩
  refine At.then ?_
  refine W.ret ?_
  have kz := kt_put w28 w14.heap.size (.deferred none)
  refine At.retM (b := w14.heap.size) (v := .tuple #[str (flatP xs), v9]) rfl hdf (fun a ha => by rw [results_tmp2 rfl]; simp [ha.get 6 _ rfl, ha.get 7 _ rfl]) ⟨(flatP xs, xs.map (·.1), met1), by rw [readP, hr]; exact if_pos hsz, v9, rfl, ?_, hmp3.kt kz (by omega), kw.new kz (by rintro i rfl; omega)⟩
  rw [List.length_map, List.map_map]
  exact hsl.kt kz (fun i h1 h2 => by intro h3; subst h3; exact hsl.ne hdf (by intro c f h; cases h) h1 h2)

end Go.Proofs.YtlcgeepjekcfgaaGreat
