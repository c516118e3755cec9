/- Mount. -/
import Derived.Test.YtlcgeepjekcfgaaGreatZe
import Derived.Test.YtlcgeepjekcfgaaGreatZd
namespace Go.Proofs.YtlcgeepjekcfgaaGreat
open Go.RowKit
set_option linter.unusedVariables false
set_option linter.unusedSimpArgs false


def bestP (acc : Option (StP × Nat)) (pages : List Bs) (k : Nat) : Option (StP × Nat) := match stateP pages k with
  | none => acc
  | some s => match acc with
    | none => some (s, k)
    | some a => if a.1.1.1 < s.1.1 then some (s, k) else some a
def mountTo (pages : List Bs) : Nat → Option (StP × Nat)
  | 0 => none
  | j + 1 => bestP (mountTo pages j) pages j
def mountP (pages : List Bs) : Option (StP × Nat) := mountTo pages 2
/-- Six cells of a state that is one, or none. -/
def SixR (w0 : World) (acc : Option (StP × Nat)) (g d s k : Nat) (m dv : Value) (w : World) : Prop :=
  (acc = none ∧ g = 0 ∧ m = .map none ∧ dv = .slice none 0 0) ∨ ∃ st mb fs, acc = some (st, k) ∧ (g, d, s) = st.1 ∧ m = .map (some mb) ∧ w0.heap.size ≤ mb ∧ forget fs = st.2.2 ∧ FilesR w mb fs ∧ Sl w 3 1 dv st.2.1.length (st.2.1.map natv)
theorem SixR.one {w0 : World} {acc : Option (StP × Nat)} {g d s k : Nat} {m dv : Value} {w : World} (h : SixR w0 acc g d s k m dv w) : ∀ v ∈ [natv g, natv d, natv s, natv k, m, dv], v.oneCell' = true := by
  intro v hv
  simp at hv
  rcases h with ⟨_, _, rfl, rfl⟩ | ⟨st, mb, fs, _, _, rfl, _, _, _, hd⟩ <;> rcases hv with rfl | rfl | rfl | rfl | rfl | rfl <;> first | rfl | exact hd.one
theorem SixR.kt {w0 : World} {acc : Option (StP × Nat)} {g d s k : Nat} {m dv : Value} {w w' : World} {S : Nat → Prop} (h : SixR w0 acc g d s k m dv w) (hk : Kt S w w') (hS : ∀ i, S i → ∃ c f, w.heap[i]? = some (.cells c 50 f)) : SixR w0 acc g d s k m dv w' := by
  rcases h with h | ⟨st, mb, fs, h1, h2, h3, h4, h5, h6, h7⟩
  · exact .inl h
  · have h3' : ∀ b, S b → ∃ o, w.heap[b]? = some o ∧ ∀ c f, o ≠ .cells c 3 f := fun b hb => by obtain ⟨c, f, hc⟩ := hS b hb; exact ⟨_, hc, by intro c f e; cases e⟩
    exact .inr ⟨st, mb, fs, h1, h2, h3, h4, h5, h6.kt hk (fun hs => by obtain ⟨c, f, hc⟩ := hS _ hs; exact h6.1.ne_cells hc rfl) h3', sl_kt h7 hk h3'⟩
theorem SixR.kt0 {w0 : World} {acc : Option (StP × Nat)} {g d s k : Nat} {m dv : Value} {w w' : World} (h : SixR w0 acc g d s k m dv w) (hk : Kt No w w') : SixR w0 acc g d s k m dv w' := h.kt hk (fun _ h => h.elim)
theorem six_of {w0 w1 w' : World} {k : Nat} {r : Option StP} {v : Value} (h : StRes w1 k r v w') (hw : w0.heap.size ≤ w1.heap.size) : Kt No w1 w' ∧ ∃ g d s k' m dv good, v = .tuple #[.agg #[natv g, natv d, natv s, natv k', m, dv], .bool good] ∧ good = r.isSome ∧ (good = true → k' = k) ∧ SixR w0 (r.map fun st => (st, k)) g d s k' m dv w' := by
  obtain ⟨hk, h⟩ := h
  refine ⟨hk, ?_⟩
  rcases h with ⟨rfl, rfl⟩ | ⟨st, mb, dv, fs, rfl, h1, rfl, h2, h3, h4⟩
  · exact ⟨0, 0, 0, 0, .map none, .slice none 0 0, false, rfl, rfl, (fun h => by cases h), .inl ⟨rfl, rfl, rfl, rfl⟩⟩
  · exact ⟨_, _, _, _, _, _, true, rfl, rfl, fun _ => rfl, .inr ⟨st, mb, fs, rfl, rfl, rfl, Nat.le_trans hw h1, h2, h3, h4⟩⟩
theorem best_new {acc : Option (StP × Nat)} {pages : List Bs} {j g d s k g1 d1 s1 k1 : Nat} {m dv m1 dv1 : Value} {w0 w : World} (hg : (stateP pages j).isSome = true) (h0 : SixR w0 ((stateP pages j).map fun st => (st, j)) g d s k m dv w) (h1 : SixR w0 acc g1 d1 s1 k1 m1 dv1 w) (hc : acc.isSome = false ∨ g1 < g) : bestP acc pages j = (stateP pages j).map fun st => (st, j) := by
  unfold bestP
  cases hs : stateP pages j with
  | none => rw [hs] at hg; cases hg
  | some st =>
    rw [hs] at h0
    cases acc with
    | none => rfl
    | some a =>
      rcases hc with hc | hc
      · cases hc
      · rcases h0 with ⟨h, _⟩ | ⟨st', _, _, h, h2, _⟩
        · cases h
        · rcases h1 with ⟨h', _⟩ | ⟨st1, _, _, h', h3, _⟩
          · cases h'
          · cases h; cases h'
            have e1 : st.1.1 = g := by rw [← h2]
            have e2 : st1.1.1 = g1 := by rw [← h3]
            simp only [Option.map_some]
            rw [if_pos (by rw [e1, e2]; exact hc)]
theorem best_old {acc : Option (StP × Nat)} {pages : List Bs} {j g d s k g1 d1 s1 k1 : Nat} {m dv m1 dv1 : Value} {w0 w : World} (h0 : SixR w0 ((stateP pages j).map fun st => (st, j)) g d s k m dv w) (h1 : SixR w0 acc g1 d1 s1 k1 m1 dv1 w) (hc : (stateP pages j).isSome = false ∨ acc.isSome = true ∧ ¬ g1 < g) : bestP acc pages j = acc := by
  unfold bestP
  cases hs : stateP pages j with
  | none => rfl
  | some st =>
    rw [hs] at h0 hc
    rcases hc with hc | ⟨hc, hlt⟩
    · cases hc
    · cases acc with
      | none => cases hc
      | some a =>
        rcases h0 with ⟨h, _⟩ | ⟨st', _, _, h, h2, _⟩
        · cases h
        · rcases h1 with ⟨h', _⟩ | ⟨st1, _, _, h', h3, _⟩
          · cases h'
          · cases h; cases h'
            have e1 : st.1.1 = g := by rw [← h2]
            have e2 : st1.1.1 = g1 := by rw [← h3]
            simp only
            rw [if_neg (by rw [e1, e2]; exact hlt)]
/-- What Mount answers. -/
def MountR (w0 : World) (pages : List Bs) (v : Value) (w : World) : Prop := Kt No w0 w ∧
  ((mountP pages = none ∧ v = .tuple #[.pointer none, natv 7]) ∨
    ∃ st k b t, mountP pages = some (st, k) ∧ v = .tuple #[.pointer (some ⟨b, 0, none⟩), natv 0] ∧ w0.heap.size ≤ b ∧ w0.heap.size ≤ t.mb ∧ w0.heap.size ≤ t.mn ∧ w0.heap.size ≤ t.pb ∧ StoR b t w ∧ (t.g, t.d, t.s) = st.1 ∧ t.k = k ∧ t.dl = st.2.1 ∧ forget t.fs = st.2.2 ∧ t.pages = pages ∧ t.now.Perm (st.2.2.map fun p => (p.1, p.2.1)) ∧ t.ev = [])


theorem build57 {w w' : World} {g d s k mb pb c n : Nat} {dv : Value} {xs : List Value} (h : Sl w 3 1 dv n xs) : (Instr.build 57 [(0, .agg #[natv g, natv d, natv s, natv k, .map (some mb), dv]), (1, .slice (some ⟨pb, 0, none⟩) 256 c)].toArray).run P w' = .ok (.agg #[natv g, natv d, natv s, natv k, .map (some mb), dv, .slice (some ⟨pb, 0, none⟩) 256 c, .map none, .slice none 0 0]) w' := by
  obtain ⟨p, cap, rfl, _⟩ := h.len
  kernel_rfl

theorem Mount_calls (pv : Value) (pages : List Bs) (w : World) (hpg : Sl w 9 1 pv 256 (pages.map str)) (h64 : all64 pages) : Calls P 4 [pv].toArray w (Ret (MountR w pages)) := by
  obtain ⟨pp, pc, rfl, hpc1, hpc2⟩ := hpg.len
  have hml := maxLen_le
  refine enterW 48 Tryz.func4 rfl rfl rfl ?_
  refine W.seq ?_
  -- region 0 (store.go:28)
  refine W.region ?_
  refine Run.ev (Ev.assign rfl) rfl rfl ?_   -- t2
  refine Run.ev (Ev.assign rfl) rfl rfl ?_   -- t3
  refine Run.nil ?_
  refine At.then ?_
  refine W.seq ?_
  refine W.seq ?_
  -- region 1 (store.go:29)
  refine W.region ?_
  refine Run.ev (Ev.move rfl) rfl rfl ?_   -- t10
  refine Run.step rfl (Stp.callr en_14 rfl (isDisk_calls pages _ w (by rw [h64.1]; exact hpg)) rfl ?_)   -- t11
  rintro v11 w11 ⟨rfl, k11⟩
  have hd : isDiskP pages = true := by unfold isDiskP; simp [h64.1]; exact h64.2
  rw [hd]
  refine Run.ev (Ev.not rfl) rfl rfl ?_   -- t12
  refine Run.nil ?_
  refine At.then ?_
  refine W.cond_f rfl ?_
  refine W.skip ?_
  refine At.then ?_
  refine W.seq ?_
  -- region 3 (store.go:32)
  refine W.region ?_
  refine Run.step rfl (Stp.alloc zc_50 rfl ?_)   -- t4
  intro a4 w4 e4 k4 b4 z4
  have kt := k11.no k4
  have s11 := k11.size
  refine Run.nil ?_
  refine At.then ?_
  refine W.seq ?_
  -- region 4 (store.go:33)
  refine W.region ?_
  refine Run.ev (Ev.assign rfl) rfl rfl ?_   -- t5
  refine Run.nil ?_
  refine At.then ?_
  refine W.seq ?_
  refine W.seq ?_
  -- region 5 (store.go:34)
  refine W.region ?_
  refine Run.ev (Ev.move rfl) rfl rfl ?_   -- t13
  refine Run.nil ?_
  refine At.then ?_
  refine W.block ?_
  refine W.loop (fun (x : Nat × Option (StP × Nat)) => [(0, .slice pp 256 pc), (4, .pointer (some ⟨a4, 0, none⟩)), (5, .bool x.2.isSome), (13, natv x.1)])
    (fun x w' => x.1 ≤ 2 ∧ Kt No w w' ∧ x.2 = mountTo pages x.1 ∧ ∃ g1 d1 s1 k1 m1 dv1, w'.heap[a4]? = some (.cells #[natv g1, natv d1, natv s1, natv k1, m1, dv1] 50 (0, 0)) ∧ SixR w x.2 g1 d1 s1 k1 m1 dv1 w')
    (fun x => 2 - x.1) (0, none) ⟨by decide, kt, rfl, 0, 0, 0, 0, .map none, .slice none 0 0, b4, .inl ⟨rfl, rfl, rfl, rfl⟩⟩ (Env.sub_cons rfl (Env.sub_cons rfl (Env.sub_cons rfl (Env.sub_cons rfl (Env.sub_nil _))))) ?_
  clear kt b4
  rintro ⟨j, acc⟩ w1 ⟨hj, kt, hacc, g1, d1, s1, k1, m1, dv1, b4, h1⟩
  dsimp only at hj hacc h1
  show W _ _ _ [(0, .slice pp 256 pc), (4, .pointer (some ⟨a4, 0, none⟩)), (5, .bool acc.isSome), (13, natv j)] w1
  have hw1 := kt.size
  refine W.seq ?_
  -- region 6 (store.go:34)
  refine W.region ?_
  refine Run.ev (Ev.lss rfl rfl rfl) rfl rfl ?_   -- t14
  refine Run.nil ?_
  refine At.then ?_
  refine W.seq ?_
  refine W.cond rfl (fun hc14 => ?_) (fun hc14 => ?_)
  · replace hc14 := of_decide_eq_true hc14
    refine W.skip ?_
    refine At.then ?_
    refine W.seq ?_
    refine W.block ?_
    refine W.seq ?_
    -- region 7 (store.go:34)
    refine W.region ?_
    refine Run.ev (Ev.move rfl) rfl rfl ?_   -- t15
    refine Run.ev (Ev.assign rfl) rfl rfl ?_   -- t6
    refine Run.nil ?_
    refine At.then ?_
    refine W.seq ?_
    -- region 8 (store.go:35)
    refine W.region ?_
    refine Run.ev (Ev.move rfl) rfl rfl ?_   -- t17
    refine Run.ev (Ev.move rfl) rfl rfl ?_   -- t18
    refine Run.step rfl (Stp.callr en_15 rfl (stateOf_calls pp pc pages j w1 (hpg.kt0 kt) h64.2 h64.1 (by omega)) rfl ?_)   -- t19
    intro v19 w19 hres
    obtain ⟨k19, g, d, s, k, m, dv, good, rfl, hgood, hkj, h0⟩ := six_of hres hw1
    replace kt := kt.no k19
    replace b4 := k19.at0 b4
    replace h1 := h1.kt0 k19
    refine Run.ev (Ev.move rfl) rfl rfl ?_   -- t16
    refine Run.ev (Ev.extract rfl rfl) rfl rfl ?_   -- t20
    refine Run.ev (Ev.extract rfl rfl) rfl rfl ?_   -- t21
    refine Run.step rfl (Stp.alloc zc_50 rfl ?_)   -- t7
    intro a7 w7 e7 k7 b7 z7
    have l4 := blk_lt b4
    replace kt := kt.no k7
    replace b4 := k7.at0 b4
    replace h1 := h1.kt0 k7
    replace h0 := h0.kt0 k7
    refine Run.step rfl (Stp.storeA (vs := [natv g, natv d, natv s, natv k, m, dv]) ag_50 rfl rfl rfl h0.one b7 (by simp) ?_)   -- tNone
    intro wS kS bS zS
    replace bS : wS.heap[a7]? = some (.cells #[natv g, natv d, natv s, natv k, m, dv] 50 (0, 0)) := bS
    replace kt := kt.new kS (by rintro i rfl; have := k19.size; omega)
    replace b4 := kS.at b4 (by omega)
    replace h1 := h1.kt kS (by rintro i rfl; exact ⟨_, _, b7⟩)
    replace h0 := h0.kt kS (by rintro i rfl; exact ⟨_, _, b7⟩)
    refine Run.ev (Ev.assign rfl) rfl rfl ?_   -- t8
    refine Run.nil ?_
    refine At.then ?_
    refine W.seq ?_
    -- region 9 (store.go:35)
    refine W.region ?_
    refine Run.ev (Ev.move rfl) rfl rfl ?_   -- t22
    refine Run.ev (Ev.move rfl) rfl rfl ?_   -- t23
    refine Run.evg rfl rfl (fun hg => (Ev.move rfl)) rfl ?_   -- t24
    refine Run.evg rfl rfl (fun hg => (Ev.not (ifp hg))) rfl ?_   -- t25
    refine Run.evg rfl rfl (fun hg => (Ev.move (ifp hg))) rfl ?_   -- t26
    refine Run.evh rfl rfl (fun hg => (Ev.fieldAddr fo_50_0 rfl rfl)) rfl ?_   -- t27
    refine Run.evh rfl rfl (fun hg => (Ev.fieldAddr fo_46_0 (ifp hg) rfl)) rfl ?_   -- t28
    refine Run.evh rfl rfl (fun hg => (Ev.load (v := natv g) sc_3 (ifp hg) (cell_of bS rfl))) rfl ?_   -- t29
    refine Run.evh rfl rfl (fun hg => (Ev.fieldAddr fo_50_0 rfl rfl)) rfl ?_   -- t30
    refine Run.evh rfl rfl (fun hg => (Ev.fieldAddr fo_46_0 (ifp hg) rfl)) rfl ?_   -- t31
    refine Run.evh rfl rfl (fun hg => (Ev.load (v := natv g1) sc_3 (ifp hg) (cell_of b4 rfl))) rfl ?_   -- t32
    refine Run.evh rfl rfl (fun hg => (Ev.gtr (m := (g : Int)) (n := (g1 : Int)) (ifp hg) (ifp hg) rfl)) rfl ?_   -- t33
    refine Run.evg rfl rfl (fun hg => (Ev.pick_orh hg rfl rfl rfl)) rfl ?_   -- t34
    refine Run.ev (Ev.pick_and rfl rfl rfl) rfl rfl ?_   -- t35
    refine Run.nil ?_
    refine At.then ?_
    refine W.cond rfl (fun hc35 => ?_) (fun hc35 => ?_)
    · have hb : good = true ∧ (acc.isSome = false ∨ g1 < g) := by
        simp at hc35
        refine ⟨hc35.1, ?_⟩
        rcases hc35.2 with h | h
        · left; rw [h]; rfl
        · right; omega
      have hbest : mountTo pages (j + 1) = (stateP pages j).map fun st => (st, j) := by
        show bestP (mountTo pages j) pages j = _
        rw [← hacc]; exact best_new (by rw [← hgood]; exact hb.1) h0 h1 hb.2
      -- region 10 (store.go:36)
      refine W.region ?_
      refine Run.ev (Ev.to (v' := .agg #[natv g, natv d, natv s, natv k, m, dv]) rfl (Ev.loadA ag_50 rfl bS rfl rfl)) rfl rfl ?_   -- t36
      refine Run.step rfl (Stp.storeA (vs := [natv g, natv d, natv s, natv k, m, dv]) ag_50 rfl rfl rfl h0.one b4 (by simp) ?_)   -- tNone
      intro wT kT bT zT
      replace bT : wT.heap[a4]? = some (.cells #[natv g, natv d, natv s, natv k, m, dv] 50 (0, 0)) := bT
      replace h0 := h0.kt kT (by rintro i rfl; exact ⟨_, _, b4⟩)
      rw [← hbest] at h0
      refine Run.ev (Ev.assign rfl) rfl rfl ?_   -- t5
      refine Run.nil ?_
      refine At.block ?_
      refine At.then ?_
      -- region 11 (store.go:34)
      refine W.region ?_
      refine Run.ev (Ev.add rfl rfl (by omega)) rfl rfl ?_   -- t37
      refine Run.ev (Ev.move rfl) rfl rfl ?_   -- t13
      refine Run.nil ?_
      exact At.round (j + 1, mountTo pages (j + 1)) (Env.sub_cons rfl (Env.sub_cons rfl (Env.sub_cons (by show some (Value.bool true) = some (Value.bool (mountTo pages (j + 1)).isSome); rw [hbest]; simp [← hgood, hb.1]) (Env.sub_cons rfl (Env.sub_nil _))))) ⟨by show j + 1 ≤ 2; omega, kt.new kT (by rintro i rfl; omega), rfl, g, d, s, k, m, dv, bT, h0⟩ (by show 2 - (j + 1) < 2 - j; omega)
    · have hb : good = false ∨ acc.isSome = true ∧ ¬ g1 < g := by
        simp at hc35
        cases good with
        | false => left; rfl
        | true => right; have := hc35 rfl; exact ⟨this.1, by omega⟩
      have hbest : mountTo pages (j + 1) = acc := by
        show bestP (mountTo pages j) pages j = _
        rw [← hacc]; exact best_old h0 h1 (hb.imp (fun h => by rw [← hgood]; exact h) id)
      refine W.skip ?_
      refine At.block ?_
      refine At.then ?_
      -- region 11 (store.go:34)
      refine W.region ?_
      refine Run.ev (Ev.add rfl rfl (by omega)) rfl rfl ?_   -- t37
      refine Run.ev (Ev.move rfl) rfl rfl ?_   -- t13
      refine Run.nil ?_
      exact At.round (j + 1, mountTo pages (j + 1)) (Env.sub_cons rfl (Env.sub_cons rfl (Env.sub_cons (by show some (Value.bool acc.isSome) = some (Value.bool (mountTo pages (j + 1)).isSome); rw [hbest]) (Env.sub_cons rfl (Env.sub_nil _))))) ⟨by show j + 1 ≤ 2; omega, kt, rfl, g1, d1, s1, k1, m1, dv1, b4, by show SixR w (mountTo pages (j + 1)) _ _ _ _ _ _ _; rw [hbest]; exact h1⟩ (by show 2 - (j + 1) < 2 - j; omega)
  · replace hc14 := of_decide_eq_false hc14
    obtain rfl : j = 2 := by omega
    refine W.exit ?_
    refine At.then_exit ?_
    refine At.then_exit ?_
    refine At.block_here ?_
    refine At.then ?_
    refine W.seq ?_
    refine W.seq ?_
    -- region 12 (store.go:39)
    refine W.region ?_
    refine Run.ev (Ev.move rfl) rfl rfl ?_   -- t38
    refine Run.ev (Ev.not rfl) rfl rfl ?_   -- t39
    refine Run.nil ?_
    refine At.then ?_
    refine W.cond rfl (fun hc39 => ?_) (fun hc39 => ?_)
    · have hn : acc = none := by cases acc; rfl; cases hc39
      refine W.seq ?_
      -- region 13 (store.go:40)
      refine W.region ?_
      refine Run.ev (Ev.assign rfl) rfl rfl ?_   -- t2
      refine Run.ev (Ev.assign rfl) rfl rfl ?_   -- t3
      refine Run.nil ?_
      refine At.then ?_
      refine W.ret ?_
      refine At.then_ret ?_
      exact At.ret2 rfl rfl rfl rfl ⟨kt, .inl ⟨hacc.symm.trans hn, rfl⟩⟩
    · obtain ⟨⟨st, kk⟩, rfl⟩ : ∃ x, acc = some x := by cases acc with | none => cases hc39 | some x => exact ⟨x, rfl⟩
      rcases h1 with ⟨h, _⟩ | ⟨st1, mb, fs, h, hst, rfl, hmb, hfg, hF, hd1⟩
      · cases h
      cases h
      refine W.skip ?_
      refine At.then ?_
      refine W.seq ?_
      -- region 14 DRAWS (store.go:42)
      refine W.draw (fun w' => w'.heap[a4]? = some (.cells #[natv g1, natv d1, natv s1, natv k1, .map (some mb), dv1] 50 (0, 0))) [(0, true), (1, true), (2, false), (3, true), (4, false), (5, true)] (by repeat (first | exact PQ.body | with_reducible apply PQ.then | with_reducible apply PQ.block)) (by kernel_rfl) (by kernel_rfl) (by kernel_rfl) rfl ?_
      have hS0 : w1.drew.heap[a4]? = some (.cells #[natv g1, natv d1, natv s1, natv k1, .map (some mb), dv1] 50 (0, 0)) := b4
      have kd := (Kt.refl No w1).drew
      replace kt := kt.no kd
      replace hF := hF.kt0 kd
      replace hd1 := hd1.kt0 kd
      refine RunD.ev rfl (fun w' hS => (Ev.to (v' := .agg #[natv g1, natv d1, natv s1, natv k1, .map (some mb), dv1]) rfl (Ev.loadA ag_50 rfl hS rfl rfl))) hS0 rfl rfl ?_   -- t40
      refine RunD.ev rfl (fun w' hS => (Ev.move rfl)) hS0 rfl rfl ?_   -- t41
      refine RunD.step rfl rfl (Stp.callr en_16 rfl (clone16_calls _ _ 256 pages _ (hpg.kt0 kt) (by omega) (by omega)) rfl ?_)   -- t42
      rintro v42 w42 ⟨pb, c42, rfl, hpb, o42, k42⟩
      replace hS0 := k42.at0 hS0
      have hpb0 := Nat.le_trans kt.size hpb
      replace kt := kt.no k42
      replace hF := hF.kt0 k42
      replace hd1 := hd1.kt0 k42
      refine ⟨hS0, ?_⟩
      refine RunD.ev rfl (fun w' hS => (Ev.build (vs := [(0, .agg #[natv g1, natv d1, natv s1, natv k1, .map (some mb), dv1]), (1, .slice (some ⟨pb, 0, none⟩) 256 c42)]) (v := .agg #[natv g1, natv d1, natv s1, natv k1, .map (some mb), dv1, .slice (some ⟨pb, 0, none⟩) 256 c42, .map none, .slice none 0 0]) rfl rfl (build57 hd1))) hS0 rfl rfl ?_   -- t43
      refine RunD.step rfl rfl (Stp.box rfl rfl ?_)   -- t44
      intro a44 w44 e44 k44 b44 z44
      replace hS0 := k44.at0 hS0
      have hbs := kt.size
      replace kt := kt.no k44
      have hq : StoQ a44 ⟨g1, d1, s1, k1, st.2.1, fs, pages, [], [], mb, 0, pb, c42, dv1, .slice none 0 0⟩ (.map none) w44 := ⟨b44, hF.kt0 k44, hd1.kt0 k44, k44.own0 o42, ⟨by simp [evsV], .inl ⟨rfl, rfl⟩⟩⟩
      refine ⟨hS0, ?_⟩
      refine RunD.ev rfl (fun w' hS => (Ev.assign rfl)) hS0 rfl rfl ?_   -- t9
      refine RunD.nil ?_
      refine At.then ?_
      refine W.seq ?_
      -- region 15 (store.go:43)
      refine W.region ?_
      refine Run.ev (Ev.move rfl) rfl rfl ?_   -- t45
      refine Run.step rfl (Stp.callr en_8 rfl (Abort_calls a44 _ _ w44 hq) rfl ?_)   -- t46
      rintro v46 w46 ⟨rfl, now, mn, hnow, hmn, hsto, k46⟩
      refine Run.nil ?_
      refine At.then ?_
      refine W.seq ?_
      -- region 16 (store.go:44)
      refine W.region ?_
      refine Run.ev (Ev.move rfl) rfl rfl ?_   -- t47
      refine Run.ev (Ev.assign rfl) rfl rfl ?_   -- t2
      refine Run.ev (Ev.assign rfl) rfl rfl ?_   -- t3
      refine Run.nil ?_
      refine At.then ?_
      refine W.ret ?_
      have e : (forget fs).map (fun p => (p.1, p.2.1)) = fs.map (fun p => (p.1, p.2.1)) := by simp [forget, Function.comp_def]
      exact At.ret2 rfl rfl rfl rfl ⟨kt.new k46 (by rintro i rfl; omega), .inr ⟨st, k1, a44, _, hacc.symm, rfl, by omega, hmb, by have := k44.size; show w.heap.size ≤ mn; omega, hpb0, hsto, hst, rfl, rfl, hfg, rfl, by rw [← hfg, e]; exact hnow, rfl⟩⟩

end Go.Proofs.YtlcgeepjekcfgaaGreat
