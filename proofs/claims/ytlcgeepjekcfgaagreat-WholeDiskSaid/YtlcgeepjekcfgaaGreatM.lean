/- The walk along a chain of pages. -/
import Derived.Test.YtlcgeepjekcfgaaGreatL
namespace Go.Proofs.YtlcgeepjekcfgaaGreat
open Go.RowKit
set_option linter.unusedVariables false
set_option linter.unusedSimpArgs false


section
variable {X : Cx} {E : Env} {w : World} {d : Nat} {ty : TypeId} {pos : String} {aft : Array Edge} {g : Option (Nat × Bool)} {K : Env → World → Prop} {Kp : List PanicEntry → World → Prop}
theorem YieldAt.round {F : Fence} {m : Nat} {l l' : Nat} {args : Array Value} {W : World} {R : Ending → World → Prop} (h : YieldAt F m P l args W R) : YieldAt (F.inRound l') m P l args W R := h
/-- A call of a range's yield. -/
theorem Stp.yield {f : Operand} {l : Nat} {args : Array Operand} {ats : Array TypeId} {vs : List Value} {R : Ending → World → Prop} (hf : E.ev f = some (.func (.yield l) #[] #[])) (hx : E.evs args.toList = some vs)
    (hy : YieldAt (Wd none) 0 P l vs.toArray w R) (hd : Nat.blt d X.N = true)
    (h : ∀ v w', R (.returned v) w' → K ((d, v) :: E) w') (hp : ∀ c w', R (.panicked c) w' → Kp c w') (ho : ∀ w', ¬ R .outgrown w') :
    Stp X ⟨some d, .call { callee := .value f, args := args, argTypes := ats }, ty, pos, aft, g⟩ E w K Kp := by
  intro a ha g'
  refine ⟨fun _ _ => trivial, ?_⟩
  rw [Oper.semAt_eq _ _ _ (by intro c e; cases e)]
  obtain ⟨fn, tmps, assign, body, hrun, hround⟩ := hy
  have e : args.map a.eval = vs.toArray := Array.toList_inj.1 (by simpa using ha.evs hx)
  have hr : (execOp a.eval ⟨some d, .call { callee := .value f, args := args, argTypes := ats }, ty, pos, aft, g'⟩).run P w = .ok (.round l fn tmps assign body) w := by
    simp [execOp, resolve, ha.ev hf, Deferred.ofValue, invoke, e, hrun]
  rw [hr]
  refine ⟨wd_depth, ?_⟩
  refine RoundIn.mono (F := Wd X.ro) ?_ (R := R) ?_
  · cases hro : X.ro with
    | none => exact hround
    | some l' => exact hround
  intro e w'' hr
  cases e with
  | returned v => exact ⟨_, ha.put hd, h v w'' hr⟩
  | panicked c => exact ⟨c, rfl, rfl, hp c w'' hr⟩
  | outgrown => exact absurd hr (ho w'')
end

/-- How many pages have not been met. -/
def unmet (met : List Nat) : Nat := ((List.range 256).filter fun i => decide (i ∉ met)).length
theorem unmet_snoc {met : List Nat} {k : Nat} (h : k < 256) (hk : k ∉ met) : unmet (met ++ [k]) < unmet met := by
  have : (List.range 256).filter (fun i => decide (i ∉ met ++ [k])) = ((List.range 256).filter fun i => decide (i ∉ met)).filter fun i => decide (i ≠ k) := by
    rw [List.filter_filter]
    apply List.filter_congr
    intro x _
    simp [not_or, and_comm]
  unfold unmet
  rw [this]
  exact List.length_filter_lt_length_iff_exists.2 ⟨k, by simp [h, hk], by simp⟩
theorem unmet_le (met : List Nat) : unmet met ≤ 256 := by
  have := List.length_filter_le (fun i => decide (i ∉ met)) (List.range 256)
  simpa [unmet] using this
def nextP (p : Bs) : Nat := unbe (p.take 2)
def sizeP (p : Bs) : Nat := (p.getD 2 0).toNat
def dataP (p : Bs) : Bs := (p.drop 7).take (sizeP p)
def pageOK (p : Bs) : Prop := (1 ≤ sizeP p ∧ sizeP p ≤ 57) ∧ (nextP p = 0 ∨ sizeP p = 57) ∧ linkP (nextP p) (dataP p) = p
instance (p : Bs) : Decidable (pageOK p) := by unfold pageOK; exact inferInstance
/-- The pages of a chain, with what each holds, and what has been met then. -/
def chainP (pages : List Bs) (met : List Nat) (k : Nat) : Option (List (Nat × Bs) × List Nat) :=
  if k = 0 then some ([], met)
  else if h : (2 ≤ k ∧ k < 256) ∧ k ∉ met then
    if pageOK (pages.getD k []) then (chainP pages (met ++ [k]) (nextP (pages.getD k []))).map fun r => ((k, dataP (pages.getD k [])) :: r.1, r.2) else none
  else none
termination_by unmet met
decreasing_by exact unmet_snoc h.1.2 h.2
def preP (xs : List (Nat × Bs)) (r : Option (List (Nat × Bs) × List Nat)) : Option (List (Nat × Bs) × List Nat) := r.map fun r => (xs ++ r.1, r.2)
theorem getD_get {l : Bs} {j : Nat} (h : j < l.length) : l[j]? = some (l.getD j 0) := by rw [List.getElem?_eq_getElem h]; simp [h]
theorem preP_none (xs : List (Nat × Bs)) : preP xs none = none := rfl
def metV (met : List Nat) : List (Int × Value) := met.map fun (k : Nat) => ((k : Int), Value.bool true)
theorem mget_met (met : List Nat) (k : Nat) : (mget (metV met) (k : Int)).getD (.bool false) = .bool (decide (k ∈ met)) := by
  induction met with
  | nil => rfl
  | cons x r ih =>
    simp only [metV, List.map_cons, mget]
    by_cases h : x = k
    · subst h; simp
    · have h' : ¬ (k : Int) = (x : Int) := by omega
      rw [if_neg h']
      rw [show (r.map fun (k : Nat) => ((k : Int), Value.bool true)) = metV r from rfl, ih]
      simp [Ne.symm h]
theorem mset_met (met : List Nat) (k : Nat) (h : k ∉ met) : mset (metV met) (k : Int) (.bool true) = metV (met ++ [k]) := by
  induction met with
  | nil => rfl
  | cons x r ih =>
    simp only [List.mem_cons, not_or] at h
    have h' : ¬ (k : Int) = (x : Int) := by omega
    simp only [metV, List.map_cons, mset, List.cons_append]
    rw [if_neg h']
    rw [show (r.map fun (k : Nat) => ((k : Int), Value.bool true)) = metV r from rfl, ih h.2]
    rfl

/-- What a walk along a chain finds in memory. -/
structure ChF (ab db d m : Nat) (p : Option Addr) (cap : Nat) (pages : List Bs) (k : Nat) (w : World) : Prop where
  hab : w.heap[ab]? = some (.cells #[natv k] 3 (0, 0))
  hdb : w.heap[db]? = some (.cells #[.pointer (some ⟨d, 0, none⟩)] 85 (0, 0))
  hd : w.heap[d]? = some (.cells #[.slice p 256 cap, .map (some m)] 88 (0, 0))
  hpg : Sl w 9 1 (.slice p 256 cap) 256 (pages.map str)
theorem ChF.kt {ab db d m : Nat} {p : Option Addr} {cap : Nat} {pages : List Bs} {k : Nat} {w w' : World} {S : Nat → Prop} (h : ChF ab db d m p cap pages k w) (hk : Kt S w w') (h1 : ¬ S ab) (h2 : ¬ S db) (h3 : ¬ S d) (h4 : ∀ b o, p = some ⟨b, o, none⟩ → ¬ S b) : ChF ab db d m p cap pages k w' :=
  ⟨hk.at h.hab h1, hk.at h.hdb h2, hk.at h.hd h3, h.hpg.kt hk (fun b hb hn => by
    obtain ⟨b', off, rfl⟩ := h.hpg.ptr (by omega)
    cases hb
    exact h4 _ _ rfl)⟩
theorem ChF.kt0 {ab db d m : Nat} {p : Option Addr} {cap : Nat} {pages : List Bs} {k : Nat} {w w' : World} (h : ChF ab db d m p cap pages k w) (hk : Kt No w w') : ChF ab db d m p cap pages k w' := h.kt hk id id id (fun _ _ _ => id)

/-- How a walk along a chain ends. -/
def ChEnd (S : Nat → Prop) (J : List (Nat × Bs) → World → Prop) (m : Nat) (w0 : World) (r : Option (List (Nat × Bs) × List Nat)) : Ending → World → Prop
  | .returned v, w' => ∃ xs met, r = some (xs, met) ∧ J xs w' ∧ Kt S w0 w' ∧ MapR i64v w' m (metV met)
  | .panicked c, w' => r = none ∧ c = brk ∧ Kt S w0 w'
  | .outgrown, _ => False
theorem At.panC {X : Cx} {E : Env} {w : World} {fn : Func} {S : Nat → Prop} {J : List (Nat × Bs) → World → Prop} {m : Nat} {w0 : World} {r : Option (List (Nat × Bs) × List Nat)} (hd : X.ds = []) (hr : r = none) (hk : Kt S w0 w) : At X (bodyPost P fn (ChEnd S J m w0 r)) (.panic brk) E w :=
  At.panicked hd ⟨hr, rfl, hk⟩


theorem Sl.lt0 {w : World} {e sz b off n cap : Nat} {xs : List Value} (h : Sl w e sz (.slice (some ⟨b, off, none⟩) n cap) n xs) (hn : 0 < n) : b < w.heap.size := by
  obtain ⟨_, p', cap', hv, _, _, h4⟩ := h
  cases hv
  rcases h4 with h4 | ⟨b', off', cs, fr, hp, hb, _⟩
  · omega
  · cases hp; exact blk_lt hb
/-- what changes new blocks besides. -/
theorem Kt.new2 {S RS : Nat → Prop} {a b c : World} (h : Kt (fun i => S i ∨ RS i) a b) (k : Kt (fun i => RS i ∨ a.heap.size ≤ i) b c) : Kt (fun i => S i ∨ RS i) a c :=
  h.trans k (fun i hi e => e.elim .inr (fun e => absurd hi (by omega)))

theorem chain1_calls {J : List (Nat × Bs) → World → Prop} {RS : Nat → Prop} (l ab db d m : Nat) (p : Option Addr) (cap : Nat) (pages : List Bs) (met0 : List Nat) (k0 : Nat) (w0 : World)
    (hF : ChF ab db d m p cap pages k0 w0) (hmp : MapR i64v w0 m (metV met0)) (h64 : ∀ s ∈ pages, s.length = 64) (hl : pages.length = 256)
    (hRS : ¬ RS ab ∧ ¬ RS db ∧ ¬ RS d ∧ ¬ RS m) (hrow : ∀ b o, p = some ⟨b, o, none⟩ → b ≠ m ∧ b ≠ ab ∧ ¬ RS b)
    (hJ : ∀ xs W W', J xs W → Kt (fun i => i = m ∨ i = ab) W W' → J xs W') (hJ0 : J [] w0)
    (hy : ∀ xs k data W, J xs W → Kt (fun i => (i = m ∨ i = ab) ∨ RS i) w0 W → xs.length < 256 → data.length ≤ 57 → k < 256 → YieldAt (Wd none) 0 P l #[natv k, str data] W (fun e W' => e = .returned (.bool true) ∧ J (xs ++ [(k, data)]) W' ∧ Kt (fun i => RS i ∨ w0.heap.size ≤ i) W W')) :
    Calls P 80 [.func (.yield l) #[] #[], .pointer (some ⟨ab, 0, none⟩), .pointer (some ⟨db, 0, none⟩)].toArray w0 (ChEnd (fun i => (i = m ∨ i = ab) ∨ RS i) J m w0 (chainP pages met0 k0)) := by
  have hmw := hmp.lt
  refine enterW 80 Tryz.func80 rfl rfl rfl ?_
  refine W.block ?_
  refine W.loop (fun (x : List Nat × Nat × List (Nat × Bs)) => [(0, .func (.yield l) #[] #[]), (1, .pointer (some ⟨ab, 0, none⟩)), (2, .pointer (some ⟨db, 0, none⟩))])
    (fun x w' => ChF ab db d m p cap pages x.2.1 w' ∧ MapR i64v w' m (metV x.1) ∧ J x.2.2 w' ∧ Kt (fun i => (i = m ∨ i = ab) ∨ RS i) w0 w' ∧ preP x.2.2 (chainP pages x.1 x.2.1) = chainP pages met0 k0 ∧ x.2.2.length + unmet x.1 ≤ 256)
    (fun x => unmet x.1) (met0, k0, []) ⟨hF, hmp, hJ0, Kt.refl _ _, by simp [preP], by simpa using unmet_le met0⟩ (Env.sub_cons rfl (Env.sub_cons rfl (Env.sub_cons rfl (Env.sub_nil _)))) ?_
  have hF0 := hF
  clear hF hmp hJ0
  rintro ⟨met, k, xs⟩ w1 ⟨hF, hmp, hJx, hk1, hp, hlen⟩
  dsimp only at hF hmp hJx hk1 hp hlen
  have hne : ab ≠ m ∧ db ≠ m ∧ d ≠ m := ⟨(fun e => hmp.ne_cells hF.hab e.symm), (fun e => hmp.ne_cells hF.hdb e.symm), (fun e => hmp.ne_cells hF.hd e.symm)⟩
  have hne2 : db ≠ ab ∧ d ≠ ab := ⟨(fun e => by have h := hF.hdb; rw [e, hF.hab] at h; cases h), (fun e => by have h := hF.hd; rw [e, hF.hab] at h; cases h)⟩
  refine W.seq ?_
  refine W.seq ?_
  -- region 0 (layout.go:112)
  refine W.region ?_
  refine Run.ev (Ev.load sc_3 rfl (cell_of hF.hab rfl)) rfl rfl ?_   -- t8
  refine Run.ev (Ev.neq (n := 0) rfl rfl rfl) rfl rfl ?_   -- t9
  refine Run.nil ?_
  refine At.then ?_
  refine W.cond rfl (fun hc9 => ?_) (fun hc9 => ?_)
  · have hk0 : k ≠ 0 := by simp at hc9; omega
    rw [chainP, if_neg hk0] at hp
    refine W.skip ?_
    refine At.then ?_
    refine W.block ?_
    refine W.seq ?_
    -- region 1 DRAWS (layout.go:113)
    refine W.draw (fun w' => ChF ab db d m p cap pages k w' ∧ MapR i64v w' m (metV met)) [(0, true), (1, true), (2, true), (3, true), (4, true), (5, true), (6, true), (7, true), (8, true), (9, true), (10, true), (11, true), (12, true), (13, true), (14, true), (15, true), (16, true), (17, true), (18, true), (19, true), (20, false)] (by repeat (first | exact PQ.body | with_reducible apply PQ.then | with_reducible apply PQ.block)) (by kernel_rfl) (by kernel_rfl) (by kernel_rfl) rfl ?_
    have hS0 : ChF ab db d m p cap pages k w1.drew ∧ MapR i64v w1.drew m (metV met) := ⟨hF.kt0 (Kt.refl No w1).drew, hmp.kt0 (Kt.refl No w1).drew⟩
    refine RunD.ev rfl (fun w' hS => (Ev.load sc_3 rfl (cell_of hS.1.hab rfl))) hS0 rfl rfl ?_   -- t10
    refine RunD.ev rfl (fun w' hS => (Ev.geq rfl rfl rfl)) hS0 rfl rfl ?_   -- t11
    refine RunD.ev rfl (fun w' hS => (Ev.move rfl)) hS0 rfl rfl ?_   -- t12
    refine RunD.evg rfl rfl rfl (fun hg w' hS => (Ev.load sc_3 rfl (cell_of hS.1.hab rfl))) hS0 rfl ?_   -- t13
    refine RunD.evg rfl rfl rfl (fun hg w' hS => (Ev.load sc_85 rfl (cell_of hS.1.hdb rfl))) hS0 rfl ?_   -- t14
    refine RunD.evg rfl rfl rfl (fun hg w' hS => (Ev.nilCheck (ifp hg))) hS0 rfl ?_   -- t15
    refine RunD.evg rfl rfl rfl (fun hg w' hS => (Ev.fieldAddr fo_88_0 (ifp hg) rfl)) hS0 rfl ?_   -- t16
    refine RunD.evg rfl rfl rfl (fun hg w' hS => (Ev.load sc_34 (ifp hg) (cell_of hS.1.hd rfl))) hS0 rfl ?_   -- t17
    refine RunD.evg rfl rfl rfl (fun hg w' hS => (Ev.len (ifp hg) Tryz.underlying34)) hS0 rfl ?_   -- t18
    refine RunD.evg rfl rfl rfl (fun hg w' hS => (Ev.lss (ifp hg) (ifp hg) rfl)) hS0 rfl ?_   -- t19
    refine RunD.ev rfl (fun w' hS => (Ev.pick_and rfl rfl rfl)) hS0 rfl rfl ?_   -- t20
    refine RunD.ev rfl (fun w' hS => (Ev.move rfl)) hS0 rfl rfl ?_   -- t21
    refine RunD.evg rfl rfl rfl (fun hg w' hS => (Ev.load sc_85 rfl (cell_of hS.1.hdb rfl))) hS0 rfl ?_   -- t22
    refine RunD.evg rfl rfl rfl (fun hg w' hS => (Ev.nilCheck (ifp hg))) hS0 rfl ?_   -- t23
    refine RunD.evg rfl rfl rfl (fun hg w' hS => (Ev.fieldAddr fo_88_1 (ifp hg) rfl)) hS0 rfl ?_   -- t24
    refine RunD.evg rfl rfl rfl (fun hg w' hS => (Ev.load sc_86 (ifp hg) (cell_of hS.1.hd rfl))) hS0 rfl ?_   -- t25
    refine RunD.evg rfl rfl rfl (fun hg w' hS => (Ev.load sc_3 rfl (cell_of hS.1.hab rfl))) hS0 rfl ?_   -- t26
    refine RunD.evg rfl rfl rfl (fun hg w' hS => (Ev.to (mget_met met k) (Ev.lookup (m := metV met) (k := (k : Int)) (keyInt .i64) Tryz.underlying86 Tryz.underlying3 zv_4 (ifp hg) (ifp hg) hS.2))) hS0 rfl ?_   -- t27
    refine RunD.evg rfl rfl rfl (fun hg w' hS => (Ev.not (ifp hg))) hS0 rfl ?_   -- t28
    refine RunD.ev rfl (fun w' hS => (Ev.pick_and rfl rfl rfl)) hS0 rfl rfl ?_   -- t29
    refine RunD.step rfl rfl (Stp.callo en_41 rfl (need_calls _ _) rfl (fun hn w' kk => by (repeat (first | with_reducible apply At.then_panic | with_reducible apply At.block_panic)); exact At.panC rfl (by rw [← hp, dif_neg, preP_none]; rintro ⟨⟨h1, h2⟩, h3⟩; simp at hn; exact h3 (hn (by omega) (by omega))) ((hk1.trans (Kt.refl No w1).drew (fun _ _ e => e.elim)).no kk)) ?_)   -- t30
    rintro x30 v30 w30 hn rfl
    have hok : (2 ≤ k ∧ k < 256) ∧ k ∉ met := by
      simp at hn
      exact ⟨⟨by omega, by omega⟩, hn.2.2⟩
    rw [dif_pos hok] at hp
    replace hk1 := hk1.drew
    replace hJx := hJ _ _ _ hJx ((Kt.refl _ _).drew)
    replace hF := hS0.1
    replace hmp := hS0.2
    refine ⟨hS0, ?_⟩
    refine RunD.nil ?_
    refine At.then ?_
    refine W.seq ?_
    -- region 2 DRAWS (layout.go:114)
    refine W.draw (fun w' => ChF ab db d m p cap pages k w') [(0, true), (1, true), (2, true), (3, true), (4, true), (5, false)] (by repeat (first | exact PQ.body | with_reducible apply PQ.then | with_reducible apply PQ.block)) (by kernel_rfl) (by kernel_rfl) (by kernel_rfl) rfl ?_
    have hk2 := hk1.drew
    have hJ2 := hJ _ _ _ hJx ((Kt.refl _ _).drew)
    replace hS0 := hF.kt0 (Kt.refl No _).drew
    have hmp2 := hmp.kt0 (Kt.refl No _).drew
    refine RunD.ev rfl (fun w' hS => (Ev.load sc_85 rfl (cell_of hS.hdb rfl))) hS0 rfl rfl ?_   -- t31
    refine RunD.ev rfl (fun w' hS => (Ev.nilCheck rfl)) hS0 rfl rfl ?_   -- t32
    refine RunD.ev rfl (fun w' hS => (Ev.fieldAddr fo_88_1 rfl rfl)) hS0 rfl rfl ?_   -- t33
    refine RunD.ev rfl (fun w' hS => (Ev.load sc_86 rfl (cell_of hS.hd rfl))) hS0 rfl rfl ?_   -- t34
    refine RunD.ev rfl (fun w' hS => (Ev.load sc_3 rfl (cell_of hS.hab rfl))) hS0 rfl rfl ?_   -- t35
    refine RunD.step rfl rfl (Stp.mapUpdate (k := (k : Int)) (keyInt .i64) Tryz.underlying86 Tryz.underlying3 rfl rfl rfl hmp2 ?_)   -- tNone
    intro wS kS bS zS
    rw [mset_met met k hok.2] at bS
    replace hk2 := hk2.trans kS (fun i _ h => .inl (.inl h))
    replace hJ2 := hJ _ _ _ hJ2 (kS.mono (fun i _ h => .inl h))
    replace hS0 := hS0.kt kS hne.1 hne.2.1 hne.2.2 (fun b o e h => (hrow b o e).1 h)
    refine ⟨hS0, ?_⟩
    refine RunD.nil ?_
    refine At.then ?_
    refine W.seq ?_
    -- region 3 DRAWS (layout.go:115)
    refine W.draw (fun w' => ChF ab db d m p cap pages k w') [(0, true), (1, true), (2, true), (3, true), (4, true), (5, true), (6, true), (7, true)] (by repeat (first | exact PQ.body | with_reducible apply PQ.then | with_reducible apply PQ.block)) (by kernel_rfl) (by kernel_rfl) (by kernel_rfl) rfl ?_
    have hk3 := hk2.drew
    have hJ3 := hJ _ _ _ hJ2 ((Kt.refl _ _).drew)
    replace hS0 := hS0.kt0 (Kt.refl No wS).drew
    have hmp3 := bS.kt0 (Kt.refl No wS).drew
    obtain ⟨pb, po, rfl⟩ := hF0.hpg.ptr (by omega)
    obtain ⟨s, hs⟩ : ∃ s, pages[k]? = some s := ⟨_, List.getElem?_eq_getElem (by omega)⟩
    have hgd : pages.getD k [] = s := by simp [hs]
    have hs64 := h64 s (List.mem_of_getElem? hs)
    rw [hgd] at hp
    refine RunD.ev rfl (fun w' hS => (Ev.load sc_85 rfl (cell_of hS.hdb rfl))) hS0 rfl rfl ?_   -- t36
    refine RunD.ev rfl (fun w' hS => (Ev.nilCheck rfl)) hS0 rfl rfl ?_   -- t37
    refine RunD.ev rfl (fun w' hS => (Ev.fieldAddr fo_88_0 rfl rfl)) hS0 rfl rfl ?_   -- t38
    refine RunD.ev rfl (fun w' hS => (Ev.load sc_34 rfl (cell_of hS.hd rfl))) hS0 rfl rfl ?_   -- t39
    refine RunD.ev rfl (fun w' hS => (Ev.load sc_3 rfl (cell_of hS.hab rfl))) hS0 rfl rfl ?_   -- t40
    refine RunD.ev rfl (fun w' hS => (Ev.indexAddr Tryz.underlying34 es_9 rfl rfl (by omega) rfl)) hS0 rfl rfl ?_   -- t41
    refine RunD.ev rfl (fun w' hS => (Ev.load sc_9 rfl (hS.hpg.cell1 (j := k) (u := str s) (by simp [hs]) (by omega)))) hS0 rfl rfl ?_   -- t42
    refine RunD.ev rfl (fun w' hS => (Ev.assign rfl)) hS0 rfl rfl ?_   -- t4
    refine RunD.nil ?_
    refine At.then ?_
    refine W.seq ?_
    -- region 4 DRAWS (layout.go:116)
    refine W.draw (fun w' => ChF ab db d m (some ⟨pb, po, none⟩) cap pages k w') [(0, true), (1, true), (3, true), (4, true), (5, true), (2, false), (6, true), (7, true)] (by repeat (first | exact PQ.body | with_reducible apply PQ.then | with_reducible apply PQ.block)) (by kernel_rfl) (by kernel_rfl) (by kernel_rfl) rfl ?_
    have hk4 := hk3.drew
    have hJ4 := hJ _ _ _ hJ3 ((Kt.refl _ _).drew)
    replace hS0 := hS0.kt0 (Kt.refl No _).drew
    have hmp4 := hmp3.kt0 (Kt.refl No _).drew
    refine RunD.ev rfl (fun w' hS => (Ev.move rfl)) hS0 rfl rfl ?_   -- t43
    refine RunD.ev rfl (fun w' hS => (Ev.scut (l := 0) (m := 2) Tryz.underlying9 rfl (.inl ⟨rfl, rfl⟩) (.inr ⟨_, rfl, rfl⟩) (by omega) (by omega))) hS0 rfl rfl ?_   -- t44
    refine RunD.ev rfl (fun w' hS => (Ev.move rfl)) hS0 rfl rfl ?_   -- t46
    refine RunD.ev rfl (fun w' hS => (Ev.sindex (k := .i64) (j := 2) (c := s.getD 2 0) Tryz.underlying9 rfl rfl (by omega) (getD_get (by omega)))) hS0 rfl rfl ?_   -- t47
    refine RunD.ev rfl (fun w' hS => (Ev.conv_i Tryz.underlying5 Tryz.underlying3 rfl (by have := (s.getD 2 0).toNat_lt; omega))) hS0 rfl rfl ?_   -- t48
    refine RunD.step rfl rfl (Stp.callr en_40 rfl (number_calls ((s.drop 0).take (2 - 0)) _ (by simp; omega)) rfl ?_)   -- t45
    rintro v45 w45 ⟨rfl, k45⟩
    replace hk4 := hk4.no k45
    replace hJ4 := hJ _ _ _ hJ4 (k45.mono (fun _ _ e => e.elim))
    replace hS0 := hS0.kt0 k45
    replace hmp4 := hmp4.kt0 k45
    refine ⟨hS0, ?_⟩
    refine RunD.ev rfl (fun w' hS => (Ev.assign rfl)) hS0 rfl rfl ?_   -- t5
    refine RunD.ev rfl (fun w' hS => (Ev.assign rfl)) hS0 rfl rfl ?_   -- t6
    refine RunD.nil ?_
    refine At.then ?_
    refine W.seq ?_
    have hnx : unbe ((s.drop 0).take (2 - 0)) = nextP s := rfl
    rw [hnx]
    have hsz : ((s.getD 2 0).toNat : Int) = (sizeP s : Int) := rfl
    rw [hsz]
    have hnl : nextP s < 65536 := by
      have h1 := unbe_lt (s.take 2)
      have h2 : 256 ^ (s.take 2).length ≤ 256 ^ 2 := Nat.pow_le_pow_right (by omega) (by simp; omega)
      unfold nextP; omega
    -- region 5 (layout.go:117)
    refine W.region ?_
    refine Run.ev (Ev.move rfl) rfl rfl ?_   -- t49
    refine Run.ev (Ev.geq (m := sizeP s) rfl rfl rfl) rfl rfl ?_   -- t50
    refine Run.ev (Ev.move rfl) rfl rfl ?_   -- t51
    refine Run.evg rfl rfl (fun hg => (Ev.move rfl)) rfl ?_   -- t52
    refine Run.evg rfl rfl (fun hg => (Ev.leq (m := sizeP s) (ifp hg) rfl rfl)) rfl ?_   -- t53
    refine Run.ev (Ev.pick_and rfl rfl rfl) rfl rfl ?_   -- t54
    refine Run.ev (Ev.move rfl) rfl rfl ?_   -- t55
    refine Run.evg rfl rfl (fun hg => (Ev.move rfl)) rfl ?_   -- t56
    refine Run.evg rfl rfl (fun hg => (Ev.eql (m := nextP s) (ifp hg) rfl rfl)) rfl ?_   -- t57
    refine Run.evg rfl rfl (fun hg => (Ev.move (ifp hg))) rfl ?_   -- t58
    refine Run.evh rfl rfl (fun hg => (Ev.move rfl)) rfl ?_   -- t59
    refine Run.evh rfl rfl (fun hg => (Ev.eql (m := sizeP s) (ifp hg) rfl rfl)) rfl ?_   -- t60
    refine Run.evg rfl rfl (fun hg => (Ev.pick_orh hg rfl rfl rfl)) rfl ?_   -- t61
    refine Run.ev (Ev.pick_and rfl rfl rfl) rfl rfl ?_   -- t62
    refine Run.step rfl (Stp.callo en_41 rfl (need_calls _ _) rfl (fun hn w' kk => by (repeat (first | with_reducible apply At.then_panic | with_reducible apply At.block_panic)); exact At.panC rfl (by rw [← hp, if_neg, preP_none]; rintro ⟨⟨h1, h2⟩, h3, h4⟩; simp at hn; have := hn (by omega) (by omega); omega) (hk4.no kk)) ?_)   -- t63
    rintro x63 v63 w63 hn rfl
    have hok2 : (1 ≤ sizeP s ∧ sizeP s ≤ 57) ∧ (nextP s = 0 ∨ sizeP s = 57) := by
      simp at hn
      omega
    refine Run.nil ?_
    refine At.then ?_
    refine W.seq ?_
    -- region 6 (layout.go:118)
    refine W.region ?_
    refine Run.ev (Ev.move rfl) rfl rfl ?_   -- t64
    refine Run.ev (Ev.move rfl) rfl rfl ?_   -- t65
    refine Run.ev (Ev.addN (m := 7) (n := sizeP s) rfl rfl (by omega)) rfl rfl ?_   -- t66
    refine Run.ev (Ev.scut (l := 7) (m := 7 + sizeP s) Tryz.underlying9 rfl (.inr ⟨_, rfl, rfl⟩) (.inr ⟨_, rfl, rfl⟩) (by omega) (by omega)) rfl rfl ?_   -- t67
    refine Run.ev (Ev.assign rfl) rfl rfl ?_   -- t7
    refine Run.nil ?_
    have hda : (s.drop 7).take (7 + sizeP s - 7) = dataP s := by unfold dataP; congr 1; omega
    rw [hda]
    have hdl : (dataP s).length ≤ 57 := by simp [dataP]; omega
    refine At.then ?_
    refine W.seq ?_
    -- region 7 (layout.go:119)
    refine W.region ?_
    refine Run.ev (Ev.move rfl) rfl rfl ?_   -- t68
    refine Run.ev (Ev.move rfl) rfl rfl ?_   -- t69
    refine Run.step rfl (Stp.callr en_74 rfl (link_calls (nextP s) (dataP s) _ (by omega) hdl) rfl ?_)   -- t70
    rintro v70 w70 ⟨rfl, k70⟩
    replace hk4 := hk4.no k70
    replace hJ4 := hJ _ _ _ hJ4 (k70.mono (fun _ _ e => e.elim))
    replace hS0 := hS0.kt0 k70
    replace hmp4 := hmp4.kt0 k70
    refine Run.ev (Ev.move rfl) rfl rfl ?_   -- t71
    refine Run.ev (Ev.seql rfl rfl rfl) rfl rfl ?_   -- t72
    refine Run.step rfl (Stp.callo en_41 rfl (need_calls _ _) rfl (fun hn w' kk => by (repeat (first | with_reducible apply At.then_panic | with_reducible apply At.block_panic)); exact At.panC rfl (by rw [← hp, if_neg, preP_none]; rintro ⟨_, _, h4⟩; simp at hn; exact hn h4) (hk4.no kk)) ?_)   -- t73
    rintro x73 v73 w73 hn rfl
    have hpok : pageOK s := ⟨hok2.1, hok2.2, by simpa using hn⟩
    rw [if_pos hpok] at hp
    refine Run.nil ?_
    refine At.then ?_
    refine W.seq ?_
    refine W.seq ?_
    -- region 8 (layout.go:120)
    refine W.region ?_
    refine Run.ev (Ev.move rfl) rfl rfl ?_   -- t74
    refine Run.ev (Ev.load sc_3 rfl (cell_of hS0.hab rfl)) rfl rfl ?_   -- t75
    refine Run.ev (Ev.move rfl) rfl rfl ?_   -- t76
    refine Run.step rfl (Stp.yield (R := fun e W' => e = .returned (.bool true) ∧ J (xs ++ [(k, dataP s)]) W' ∧ Kt (fun i => RS i ∨ w0.heap.size ≤ i) _ W') rfl rfl (hy xs k (dataP s) _ hJ4 hk4 (by have := unmet_snoc hok.1.2 hok.2; omega) hdl hok.1.2) rfl ?_ (fun c w' h => by cases h.1) (fun w' h => by cases h.1))   -- t77
    rintro v77 w77 ⟨hv, hJ5, k77⟩
    cases hv
    have hold : ∀ i, i < w0.heap.size → ¬ RS i → ¬ (RS i ∨ w0.heap.size ≤ i) := fun i h1 h2 h3 => by rcases h3 with h | h; exact h2 h; omega
    have hF5 := hS0.kt k77 (hold _ (blk_lt hF0.hab) hRS.1) (hold _ (blk_lt hF0.hdb) hRS.2.1) (hold _ (blk_lt hF0.hd) hRS.2.2.1) (fun b o e => by cases e; exact hold _ (hF0.hpg.lt0 (by omega)) (hrow _ _ rfl).2.2)
    have hmp5 := hmp4.kt k77 (hold _ hmw hRS.2.2.2)
    have hk5 := hk4.new2 k77
    refine Run.ev (Ev.not rfl) rfl rfl ?_   -- t78
    refine Run.nil ?_
    refine At.then ?_
    refine W.cond_f rfl ?_
    refine W.skip ?_
    refine At.then ?_
    -- region 9 (layout.go:123)
    refine W.region ?_
    refine Run.ev (Ev.move rfl) rfl rfl ?_   -- t79
    refine Run.step rfl (Stp.store sc_3 sz_3 rfl rfl rfl hF5.hab (by simp) ?_)   -- tNone
    intro wS9 kS9 bS9 zS9
    refine Run.nil ?_
    refine At.block ?_
    refine At.round (met ++ [k], nextP s, xs ++ [(k, dataP s)]) (Env.sub_cons rfl (Env.sub_cons rfl (Env.sub_cons rfl (Env.sub_nil _)))) ⟨⟨bS9, kS9.at hF5.hdb hne2.1, kS9.at hF5.hd hne2.2, hF5.hpg.kt kS9 (fun b hb _ => by cases hb; exact (hrow _ _ rfl).2.1)⟩, hmp5.kt kS9 (Ne.symm hne.1), hJ _ _ _ hJ5 (kS9.mono (fun i _ h => .inr h)), hk5.trans kS9 (fun i _ h => .inl (.inr h)), ?_, ?_⟩ (unmet_snoc hok.1.2 hok.2)
    · rw [← hp]; simp only [preP, Option.map_map]; congr 1; funext r; simp
    · have := unmet_snoc hok.1.2 hok.2; simp; omega
  · have hk0 : k = 0 := by simp at hc9; omega
    subst hk0
    rw [chainP, if_pos rfl] at hp
    refine W.exit ?_
    refine At.then_exit ?_
    refine At.then_exit ?_
    refine At.block_here ?_
    exact At.end0 rfl rfl ⟨xs, met, by rw [← hp]; simp [preP], hJx, hk1, hmp⟩

end Go.Proofs.YtlcgeepjekcfgaaGreat
