/- Regions that draw their order; the way into a function and out of it; closures, interface values, panics; new byte slices. -/
import Derived.Test.YtlcgeepjekcfgaaGreatD
namespace Go.Proofs.YtlcgeepjekcfgaaGreat
open Go.RowKit
set_option linter.unusedVariables false
set_option linter.unusedSimpArgs false

/-! ### Regions that draw their order: what only reads may come first; what is left comes one behind the other -/
section
variable {ro : Option Nat} {ops : Array Oper} {Q : Exit → Act → World → Prop} {S : World → Prop} {md : Region.Mode}

def noDefer (ops : Array Oper) : Bool := ops.all fun o => match o.op with | .defer _ => false | _ => true
theorem noDefer_spec (h : noDefer ops = true) {j : Nat} {o : Oper} (ho : ops[j]? = some o) (c : Call) : o.op ≠ .defer c := by
  intro e
  obtain ⟨hj, hoj⟩ := Array.getElem?_eq_some_iff.1 ho
  have := (Array.all_eq_true.1 h) j hj
  rw [hoj, e] at this
  cases this

theorem yields_wpOpIn {i : Nat} {o : Oper} {v : Value} {a : Act} (hi : ops[i]? = some o) (hnd : ∀ c, o.op ≠ .defer c) (hy : YieldsIf P ops S o v a)
    {K : Act → World → Prop} {w : World} (hS : S w) (h : K (a.put o.dst v) w) : wpOpIn (Wd ro) 0 P ops Q i K a w := by
  unfold Go.wpOpIn
  simp only [hi]
  rcases hy with ⟨hw, hv⟩ | ⟨hw, rfl⟩
  · simp only [hw, if_true, Oper.wpIn]
    refine ⟨fun _ _ => trivial, ?_⟩
    rw [Oper.semAt_eq _ _ _ hnd, hv w hS]
    exact h
  · simp only [hw, Bool.false_eq_true, if_false]; exact ⟨fun _ _ => trivial, h⟩

theorem wpOpIn_putIf {j : Nat} {oi oj : Oper} {v : Value} (hj : ops[j]? = some oj) (hap : oi.apart ops oj = true) (hnd : ∀ c, oj.op ≠ .defer c)
    (hsi : ∀ cs b, oi.op ≠ .select cs b) (hsj : ∀ cs b, oj.op ≠ .select cs b)
    (hQ : ∀ c a w, Q (.panic c) (a.put oi.dst v) w → Q (.panic c) a w) {K : Act → World → Prop} {a : Act} {w : World}
    (hy : YieldsIf P ops S oi v a) (h : wpOpIn (Wd ro) 0 P ops Q j K (a.put oi.dst v) w) :
    wpOpIn (Wd ro) 0 P ops Q j (fun a' w' => YieldsIf P ops S oi v a' ∧ K (a'.put oi.dst v) w') a w := by
  obtain ⟨h1, h2, h3⟩ := Oper.apart_spec hap
  have keep : ∀ (a : Act), YieldsIf P ops S oi v a → ∀ u, YieldsIf P ops S oi v (a.put oj.dst u) := fun a hy u =>
    hy.of_same (execOp_put oi hsi a oj.dst u h3) (wanted_put oi a oj.dst u h3)
  have keepD : ∀ d, YieldsIf P ops S oi v { a with defers := d :: a.defers } := fun d => hy.of_same rfl rfl
  unfold wpOpIn at *
  simp only [hj] at *
  rw [wanted_put oj a oi.dst v h1, about_put oj w a oi.dst v h1] at h
  split
  · rename_i hw
    simp only [hw, if_true] at h
    unfold Oper.wpIn at *
    refine ⟨fun _ _ => trivial, ?_⟩
    have h := h.2
    rw [Oper.semAt_eq _ _ _ hnd, execOp_put oj hsj a oi.dst v h1] at h
    rw [Oper.semAt_eq _ _ _ hnd]
    generalize (execOp a.eval oj).run P w = r at *
    cases r with
    | ok x w' =>
      cases x <;> simp only [Oper.uponIn] at h ⊢
      case value u => exact ⟨keep a hy u, by rw [← Act.put_comm a v u h2]; exact h⟩
      case skip => exact ⟨keep a hy _, by rw [← Act.put_comm a v undef h2]; exact h⟩
      case defer d =>
        refine ⟨keep _ (keepD d) _, ?_⟩
        rw [← Act.put_comm _ v undef h2, ← Act.put_defers]
        exact h
      case enter f args =>
        refine ⟨h.1, CallsIn.mono h.2 fun e w'' he => ?_⟩
        cases e with
        | returned u => exact ⟨keep a hy u, by rw [← Act.put_comm a v u h2]; exact he⟩
        | panicked c => exact hQ _ _ _ he
        | outgrown => exact he
      case row row args => exact ⟨h.1, RowsIn.mono h.2 fun u w'' he => ⟨keep a hy u, by rw [← Act.put_comm a v u h2]; exact he⟩⟩
      case round l f tmps assign body =>
        refine ⟨h.1, RoundIn.mono h.2 fun e w'' he => ?_⟩
        cases e with
        | returned u => exact ⟨keep a hy u, by rw [← Act.put_comm a v u h2]; exact he⟩
        | panicked c => exact hQ _ _ _ he
        | outgrown => exact he
    | halt x w' =>
      cases x <;> simp only [Oper.uponIn] at h ⊢
      case panic u => exact hQ _ _ _ h
  · rename_i hw
    simp only [hw] at h
    exact ⟨fun _ _ => trivial, keep a hy _, by rw [← Act.put_comm a v undef h2]; exact h.2⟩

def wpAnyW (ro : Option Nat) (ops : Array Oper) (Q : Exit → Act → World → Prop) (S : World → Prop) : Nat → Array Bool → Act → World → Prop
  | 0, listed, a, w => Region.ready .any ops listed = [] ∧ Q .normal a w
  | fuel + 1, listed, a, w =>
    (Region.ready .any ops listed = [] → Q .normal a w) ∧
    ∀ i ∈ Region.ready .any ops listed, wpOpIn (Wd ro) 0 P ops Q i (fun a' w' => S w' ∧ wpAnyW ro ops Q S fuel (listed.setIfInBounds i true) a' w') a w

theorem wpAny_of_W : ∀ (fuel : Nat) (listed : Array Bool) (a : Act) (w : World), wpAnyW ro ops Q S fuel listed a w → wpAnyIn (Wd ro) 0 P .any ops Q fuel listed a w
  | 0, _, _, _, h => h
  | fuel + 1, _, _, _, h => ⟨h.1, fun i hi => wpOpIn_mono (fun a' w' h' => wpAny_of_W fuel _ a' w' h'.2) (h.2 i hi)⟩

theorem wpAnyW_first {i : Nat} {oi : Oper} {v : Value} (hi : ops[i]? = some oi) (hnd : noDefer ops = true) (hsel : ∀ (j : Nat) (o : Oper) cs b, ops[j]? = some o → o.op ≠ .select cs b)
    (hQ : ∀ c a w, Q (.panic c) (a.put oi.dst v) w → Q (.panic c) a w) :
    ∀ (fuel : Nat) (listed : Array Bool) (a : Act) (w : World),
      (∀ j oj, ops[j]? = some oj → j ≠ i → listed.getD j true = false → (∀ e ∈ oj.after, Region.binds .any e = true → e.on ≠ i) → oi.apart ops oj = true) →
      i ∈ Region.ready .any ops listed → YieldsIf P ops S oi v a → S w →
      wpAnyW ro ops Q S fuel (listed.setIfInBounds i true) (a.put oi.dst v) w → wpAnyW ro ops Q S (fuel + 1) listed a w := by
  intro fuel
  induction fuel with
  | zero =>
    intro listed a w _ hr hy hS H
    refine ⟨fun h => (by rw [h] at hr; cases hr), fun j hj => ?_⟩
    by_cases hji : j = i
    · subst hji; exact yields_wpOpIn hi (noDefer_spec hnd hi) hy hS ⟨hS, H⟩
    · have := ready_mono hj hji
      rw [H.1] at this
      cases this
  | succ fuel ih =>
    intro listed a w hfree hr hy hS H
    refine ⟨fun h => (by rw [h] at hr; cases hr), fun j hj => ?_⟩
    by_cases hji : j = i
    · subst hji; exact yields_wpOpIn hi (noDefer_spec hnd hi) hy hS ⟨hS, H⟩
    · have h1 := H.2 j (ready_mono hj hji)
      obtain ⟨hjun, oj, hoj, hall⟩ := mem_ready.1 hj
      have hnot : ∀ e ∈ oj.after, Region.binds .any e = true → e.on ≠ i := fun e he hb heq => by
        have h1 := hall e he hb
        have h0 := (mem_ready.1 hr).1
        rw [heq] at h1
        rcases Nat.lt_or_ge i listed.size with h' | h'
        · simp [h'] at h0 h1; rw [h0] at h1; cases h1
        · simp [Array.getElem?_eq_none h'] at h1
      have h2 := wpOpIn_putIf hoj (hfree j oj hoj hji hjun hnot) (noDefer_spec hnd hoj) (fun cs b => hsel i oi cs b hi) (fun cs b => hsel j oj cs b hoj) hQ hy h1
      have hfree' : ∀ k ok, ops[k]? = some ok → k ≠ i → (listed.setIfInBounds j true).getD k true = false →
          (∀ e ∈ ok.after, Region.binds .any e = true → e.on ≠ i) → oi.apart ops ok = true := fun k ok hk hki hun hno => by
        refine hfree k ok hk hki ?_ hno
        by_cases hjk : j = k
        · subst hjk; exact hjun
        · rw [getD_set_ne true hjk] at hun; exact hun
      refine wpOpIn_mono (fun a' w' h3 => ⟨h3.2.1, ih (listed.setIfInBounds j true) a' w' hfree' (ready_mono hr (Ne.symm hji)) h3.1 h3.2.1 ?_⟩) h2
      rw [Array.setIfInBounds_comm _ _ hji]
      exact h3.2.2
end

/-- An order, held against the region: true: the operation may be taken first; false: it is the one that is ready. -/
def ordOk (ops : Array Oper) : Array Bool → List (Nat × Bool) → Bool
  | listed, [] => (Region.ready .any ops listed).isEmpty
  | listed, (i, true) :: r => Region.free .any ops listed i && (Region.ready .any ops listed).contains i && ordOk ops (listed.setIfInBounds i true) r
  | listed, (i, false) :: r => (Region.ready .any ops listed == [i]) && ordOk ops (listed.setIfInBounds i true) r

/-- The post of a panic does not look at the slots. -/
def PQ (Q : Exit → Act → World → Prop) : Prop := ∀ c (a a' : Act) w, a.defers = a'.defers → Q (.panic c) a w → Q (.panic c) a' w
theorem PQ.then {K : Act → World → Prop} {Q : Exit → Act → World → Prop} (h : PQ Q) : PQ (Exit.then K Q) := h
theorem PQ.block {id : Nat} {Q : Exit → Act → World → Prop} (h : PQ Q) : PQ (Exit.inBlock id Q) := h
theorem PQ.body {fn : Func} {R : Ending → World → Prop} : PQ (bodyPost P fn R) := fun c a a' w hd h => ⟨hd ▸ h.1, h.2⟩

structure DCx where
  ops : Array Oper
  Q : Exit → Act → World → Prop
  S : World → Prop
  pq : PQ Q
  sel : Region.noSelect ops = true
  def_ : noDefer ops = true

def RunD (X : Cx) (D : DCx) (l : List (Nat × Bool)) (E : Env) (w : World) : Prop :=
  ∀ a, Fits X E a → ∀ listed, ordOk D.ops listed l = true → wpAnyW X.ro D.ops D.Q D.S l.length listed a w

section
variable {X : Cx} {D : DCx} {E : Env} {w : World} {l : List (Nat × Bool)}

theorem RunD.nil (h : At X D.Q .normal E w) : RunD X D [] E w := fun a ha listed ho => ⟨by simpa [ordOk] using ho, h a ha⟩

theorem RunD.ev {i d : Nat} {op : Op} {ty : TypeId} {pos : String} {aft : Array Edge} {g : Option (Nat × Bool)} {v : Value} (hi : D.ops[i]? = some ⟨some d, op, ty, pos, aft, g⟩) (he : ∀ w', D.S w' → Ev X op ty E w' v w') (hS : D.S w)
    (hg : gst D.ops g E = some true) (hd : Nat.blt d X.N = true) (h : RunD X D l ((d, v) :: E) w) : RunD X D ((i, true) :: l) E w := by
  intro a ha listed ho
  simp only [ordOk, Bool.and_eq_true] at ho
  obtain ⟨⟨h1, h2⟩, h3⟩ := ho
  exact wpAnyW_first hi D.def_ (Region.noSelect_spec D.sel) (fun c a w => D.pq c _ _ w rfl) _ listed a w (Region.free_spec hi h1) (by simpa using h2)
    (.inl ⟨gst_wanted (o := ⟨some d, op, ty, pos, aft, g⟩) ha hg, fun w' hS' => (he w' hS').2 a ha _ _ _ _⟩) hS (h _ (ha.put hd) _ h3)

theorem RunD.off {i d : Nat} {op : Op} {ty : TypeId} {pos : String} {aft : Array Edge} {g : Option (Nat × Bool)} (hi : D.ops[i]? = some ⟨some d, op, ty, pos, aft, g⟩) (hS : D.S w)
    (hg : gst D.ops g E = some false) (hd : Nat.blt d X.N = true) (h : RunD X D l ((d, undef) :: E) w) : RunD X D ((i, true) :: l) E w := by
  intro a ha listed ho
  simp only [ordOk, Bool.and_eq_true] at ho
  obtain ⟨⟨h1, h2⟩, h3⟩ := ho
  exact wpAnyW_first hi D.def_ (Region.noSelect_spec D.sel) (fun c a w => D.pq c _ _ w rfl) _ listed a w (Region.free_spec hi h1) (by simpa using h2)
    (.inr ⟨gst_wanted (o := ⟨some d, op, ty, pos, aft, g⟩) ha hg, rfl⟩) hS (h _ (ha.put hd) _ h3)

theorem RunD.step {i : Nat} {o : Oper} (hi : D.ops[i]? = some o) (hg : gst D.ops o.guard E = some true) (h : Stp X o E w (fun E' w' => D.S w' ∧ RunD X D l E' w') (fun c w' => At X D.Q (.panic c) E w')) : RunD X D ((i, false) :: l) E w := by
  intro a ha listed ho
  simp only [ordOk, Bool.and_eq_true, beq_iff_eq] at ho
  obtain ⟨h1, h3⟩ := ho
  refine ⟨fun e => (by rw [h1] at e; cases e), fun j hj => ?_⟩
  rw [h1] at hj
  obtain rfl : j = i := by simpa using hj
  unfold wpOpIn
  rw [hi]
  simp only
  rw [if_pos (gst_wanted ha hg)]
  refine wpIn_two ?_ ?_ ?_ (h a ha o.guard)
  · rintro a' w' ⟨E', hE, hS, hr⟩; exact ⟨hS, hr a' hE _ h3⟩
  · rintro c a' w' ⟨c', hc, rfl, hp⟩; cases hc; exact hp a' ha
  · rintro a' w' ⟨c', hc, _⟩; cases hc

/-- a guarded loud operation that is not carried out. -/
theorem RunD.skip {i d : Nat} {op : Op} {ty : TypeId} {pos : String} {aft : Array Edge} {g : Option (Nat × Bool)} (hi : D.ops[i]? = some ⟨some d, op, ty, pos, aft, g⟩) (hS : D.S w)
    (hg : gst D.ops g E = some false) (hd : Nat.blt d X.N = true) (h : RunD X D l ((d, undef) :: E) w) : RunD X D ((i, false) :: l) E w := by
  intro a ha listed ho
  simp only [ordOk, Bool.and_eq_true, beq_iff_eq] at ho
  obtain ⟨h1, h3⟩ := ho
  refine ⟨fun e => (by rw [h1] at e; cases e), fun j hj => ?_⟩
  rw [h1] at hj
  obtain rfl : j = i := by simpa using hj
  unfold wpOpIn
  rw [hi]
  simp only
  rw [if_neg (by rw [gst_wanted (o := ⟨some d, op, ty, pos, aft, g⟩) ha hg]; simp)]
  exact ⟨fun _ _ => trivial, hS, h _ (ha.put hd) _ h3⟩

theorem RunD.split {t : Nat} {b : Bool} (hb : E.get? t = some (.bool b)) (ht : b = true → RunD X D l ((t, .bool true) :: E) w) (hf : b = false → RunD X D l ((t, .bool false) :: E) w) : RunD X D l E w := by
  intro a ha
  cases hbc : b with
  | true => exact ht hbc a (ha.case hb hbc)
  | false => exact hf hbc a (ha.case hb hbc)

theorem mixed : P.follows .mixedOrders = true := by kernel_rfl

theorem W.draw {id : Nat} {ops : Array Oper} {Q : Exit → Act → World → Prop} (S : World → Prop) (l : List (Nat × Bool)) (pq : PQ Q) (sel : Region.noSelect ops = true) (def_ : noDefer ops = true)
    (ho : ordOk ops (Array.replicate ops.size false) l = true) (hl : l.length = ops.size) (h : RunD X ⟨ops, Q, S, pq, sel, def_⟩ l E w.drew) : W X (.region id ops true) Q E w := by
  intro a ha
  refine wpIn_region_any mixed ?_
  have := wpAny_of_W _ _ _ _ (h a ha _ ho)
  rw [hl] at this
  exact this
end

/-! ### The way in, the way out -/
def argEnv : Nat → List Value → Env
  | _, [] => []
  | i, v :: vs => (i, v) :: argEnv (i + 1) vs

theorem argEnv_get (vs : List Value) : ∀ (i t : Nat) (v : Value), Env.get? (argEnv i vs) t = some v → ∃ j, t = i + j ∧ vs[j]? = some v := by
  induction vs with
  | nil => intro i t v h; simp [argEnv, Env.get?] at h
  | cons u vs ih =>
    intro i t v h
    unfold argEnv Env.get? at h
    cases hb : Nat.beq i t with
    | true => rw [hb] at h; obtain rfl : i = t := Nat.eq_of_beq_eq_true hb; simp at h; subst h; exact ⟨0, by simp, by simp⟩
    | false =>
      rw [hb] at h
      obtain ⟨j, hj, hv⟩ := ih (i + 1) t v h
      exact ⟨j + 1, by omega, by simpa using hv⟩

theorem fits_args (vs : List Value) (N : Nat) (h : vs.length ≤ N) : Fits ⟨none, N, []⟩ (argEnv 0 vs) { tmps := vs.toArray ++ Array.replicate (N - vs.toArray.size) undef, defers := [] } := by
  refine ⟨by simp; omega, rfl, fun t v ht => ?_⟩
  obtain ⟨j, hj, hv⟩ := argEnv_get vs 0 t v ht
  obtain ⟨hlt, _⟩ := List.getElem?_eq_some_iff.1 hv
  simp at hj
  subst hj
  simp [Array.getElem?_append, hlt]
  simpa [hlt] using hv

theorem enterW {f : FuncId} {fn : Func} {c : Code} {vs : List Value} {w : World} {R : Ending → World → Prop} (N : Nat) (hf : P.funcs[f]? = some fn) (hb : fn.body = some c) (hN : fn.ntmps = N) (hl : Nat.ble vs.length N = true)
    (h : W ⟨none, N, []⟩ c (bodyPost P fn R) (argEnv 0 vs) w) : Calls P f vs.toArray w R := by
  refine (callsIn_wide (n := 0)).1 (callsIn_of_wp hf hb trivial ?_ rfl)
  rw [hN]
  exact h _ (fits_args vs N (by simpa using hl))

section
variable {X : Cx} {E : Env} {w : World} {fn : Func} {R : Ending → World → Prop}

theorem At.res {e : Exit} {v : Value} (he : e = .ret ∨ e = .normal) (hd : X.ds = []) (hr : ∀ a, Fits X E a → (results fn a.tmps).run P w = .ok v w) (h : R (.returned v) w) : At X (bodyPost P fn R) e E w := by
  intro a ha
  rcases he with rfl | rfl <;> exact ⟨by rw [ha.defers, hd], v, hr a ha, h⟩
theorem At.ret1 {t : Nat} {v : Value} (hf : fn.results = #[.tmp t]) (hd : X.ds = []) (hv : E.get? t = some v) (h : R (.returned v) w) : At X (bodyPost P fn R) .ret E w :=
  At.res (.inl rfl) hd (fun a ha => by rw [results_tmp hf]; simp [ha.get t v hv]) h
theorem At.end1 {t : Nat} {v : Value} (hf : fn.results = #[.tmp t]) (hd : X.ds = []) (hv : E.get? t = some v) (h : R (.returned v) w) : At X (bodyPost P fn R) .normal E w :=
  At.res (.inr rfl) hd (fun a ha => by rw [results_tmp hf]; simp [ha.get t v hv]) h
theorem At.ret2 {t u : Nat} {v v' : Value} (hf : fn.results = #[.tmp t, .tmp u]) (hd : X.ds = []) (hv : E.get? t = some v) (hv' : E.get? u = some v') (h : R (.returned (.tuple #[v, v'])) w) : At X (bodyPost P fn R) .ret E w :=
  At.res (.inl rfl) hd (fun a ha => by rw [results_tmp2 hf]; simp [ha.get t v hv, ha.get u v' hv']) h
theorem At.ret0 (hf : fn.results = #[]) (hd : X.ds = []) (h : R (.returned (.tuple #[])) w) : At X (bodyPost P fn R) .ret E w :=
  At.res (.inl rfl) hd (fun a ha => by rw [results_none hf]) h
theorem At.end0 (hf : fn.results = #[]) (hd : X.ds = []) (h : R (.returned (.tuple #[])) w) : At X (bodyPost P fn R) .normal E w :=
  At.res (.inr rfl) hd (fun a ha => by rw [results_none hf]) h
theorem At.panicked {c : List PanicEntry} (hd : X.ds = []) (h : R (.panicked c) w) : At X (bodyPost P fn R) (.panic c) E w := fun a ha => ⟨by rw [ha.defers, hd], h⟩
end

/-- It returns, and R holds of what it returns. -/
def Ret (R : Value → World → Prop) : Ending → World → Prop
  | .returned v, w => R v w
  | _, _ => False

section
variable {X : Cx} {E : Env} {w : World} {d : Nat} {ty : TypeId} {pos : String} {aft : Array Edge} {g : Option (Nat × Bool)} {K : Env → World → Prop} {Kp : List PanicEntry → World → Prop}

/-- A call that returns. -/
theorem Stp.callr {k : FuncId} {args : Array Operand} {ats : Array TypeId} {vs : List Value} {R : Value → World → Prop} (hen : Enters P k) (hx : E.evs args.toList = some vs)
    (hc : Calls P k vs.toArray w (Ret R)) (hd : Nat.blt d X.N = true) (h : ∀ v w', R v w' → K ((d, v) :: E) w') :
    Stp X ⟨some d, .call { callee := .value (.func k), args := args, argTypes := ats }, ty, pos, aft, g⟩ E w K Kp :=
  Stp.call hen hx hc hd h (fun _ _ h => h.elim) (fun _ h => h.elim)

/-- A call of a function value that is a closure of function k. -/
theorem Stp.callv {f : Operand} {k : FuncId} {cap : Array Value} {args : Array Operand} {ats : Array TypeId} {vs : List Value} {R : Ending → World → Prop} (hen : Enters P k) (hf : E.ev f = some (.func (.func k) #[] cap)) (hx : E.evs args.toList = some vs)
    (hc : Calls P k (vs ++ cap.toList).toArray w R) (hd : Nat.blt d X.N = true)
    (h : ∀ v w', R (.returned v) w' → K ((d, v) :: E) w') (hp : ∀ c w', R (.panicked c) w' → Kp c w') (ho : ∀ w', ¬ R .outgrown w') :
    Stp X ⟨some d, .call { callee := .value f, args := args, argTypes := ats }, ty, pos, aft, g⟩ E w K Kp :=
  Stp.enter (f := k) (args := (vs ++ cap.toList).toArray) (w' := w) (E' := fun v => (d, v) :: E) (by intro c e; cases e) (fun a ha g => by
    have e : args.map a.eval = vs.toArray := Array.toList_inj.1 (by simpa using ha.evs hx)
    have he := hen (vs ++ cap.toList).toArray w
    have hap : vs.toArray ++ cap = (vs ++ cap.toList).toArray := by apply Array.toList_inj.1; simp
    simp [execOp, resolve, ha.ev hf, Deferred.ofValue, invoke, e]
    rw [hap]
    simp [he]) (by
      cases hro : X.ro with
      | none => exact callsIn_wide.2 hc
      | some l => exact CallsIn.inRound l (callsIn_wide.2 hc)) (fun a v ha => ha.put hd) h hp ho

theorem Ev.mkiface {x : Operand} {t : TypeId} {u : TypeDesc} {v : Value} (ht : P.underlying t = some u) (hu : ∀ ms, u ≠ .interface ms) (hx : E.ev x = some v) : Ev X (.makeInterface t x) ty E w (.iface t v) w :=
  ⟨(by intro c e; cases e), fun a ha d pos aft g => by
    cases u <;> first | (exact absurd rfl (hu _)) | simp [execOp, Instr.makeInterface, run_underlying ht, ha.ev hx]⟩

theorem Stp.panic {x : Operand} {t : TypeId} {v : Value} (hx : E.ev x = some (.iface t v)) (h : Kp [{ v := .iface t v, recovered := false }] w) : Stp X ⟨none, .panic x, ty, pos, aft, g⟩ E w K Kp :=
  Stp.panics (by intro c e; cases e) (fun a ha g => by simp [execOp, Instr.panic, ha.ev hx, goPanic, Sem.run]) h

/-- A slice of two one-cell elements, written out. -/
theorem Stp.bslice2 {x y : Operand} {t e by_ : Nat} {z v u : Value} (ht : P.underlying t = some (.slice e)) (hi : einf e = some (z, 1, by_)) (hz : z.cells = #[z]) (hx : E.ev x = some v) (hy : E.ev y = some u) (hv : v.cells = #[v]) (hu : u.cells = #[u]) (hd : Nat.blt d X.N = true)
    (h : ∀ b w', b = w.heap.size → Kt No w w' → Sl w' e 1 (.slice (some ⟨b, 0, none⟩) 2 2) 2 [v, u] → w'.heap.size = b + 1 → K ((d, .slice (some ⟨b, 0, none⟩) 2 2) :: E) w') :
    Stp X ⟨some d, .buildSlice t 2 #[(0, x), (1, y)], ty, pos, aft, g⟩ E w K Kp := by
  obtain ⟨i, i1, i2, i3, i4⟩ := einf_spec hi
  refine Stp.val (v := .slice (some ⟨w.heap.size, 0, none⟩) 2 2) (w' := w.alloc (.cells #[v, u] e)) (by intro c e; cases e) (fun a ha g => ?_) (fun a ha => ha.put hd)
    (h _ _ rfl (kt_alloc _ _) ⟨by simp, _, 2, rfl, Nat.le_refl _, by unfold maxLen; omega, .inr ⟨_, 0, _, _, rfl, alloc_new _ _, by simp⟩⟩ (by simp))
  have hr2 : Array.range 2 = #[0, 1] := by decide
  simp [execOp, Instr.buildSlice, run_underlying ht, sizeOf, typeInfo, i1, i3, zeroValue, i2, hz, Instr.fill, ha.ev hx, ha.ev hy, hv, hu, newRow, run_newObj_alloc, hr2]

/-- string(rune): an ASCII letter. -/
theorem Ev.rune {x : Operand} {n : Nat} {s t : TypeId} (hs : P.underlying s = some (.int .i32)) (ht : P.underlying t = some .string) (hx : E.ev x = some (.int .i32 (n : Int))) (hn : n < 128) : Ev X (.convert s t x) ty E w (str [UInt8.ofNat n]) w :=
  ⟨(by intro c e; cases e), fun a ha d pos aft g => by
    have he : ∀ m : Fin 128, Utf8.encode (m.val : Int) = ⟨#[UInt8.ofNat m.val]⟩ := by decide
    have := he ⟨n, hn⟩
    simp at this
    simp [execOp, ha.ev hx, convert, run_underlying hs, run_underlying ht, Conv.intToString, this, str]⟩
theorem Ev.conv_r {x : Operand} {n : Int} {s : TypeId} {t : TypeId} (hs : P.underlying s = some (.int .i64)) (ht : P.underlying t = some (.int .i32)) (hx : E.ev x = some (.int .i64 n)) (hr : 0 ≤ n ∧ n < 2147483648) : Ev X (.convert s t x) ty E w (.int .i32 n) w :=
  ⟨(by intro c e; cases e), fun a ha d pos aft g => by
    have h1 : IntKind.i32.wrap n = n := by simp only [IntKind.wrap, IntKind.bits, IntKind.signed]; simp; omega
    simp [execOp, ha.ev hx, convert, run_underlying hs, run_underlying ht, Conv.intToInt, h1]⟩

/-- make([]T, n) of one-cell elements. -/
theorem Stp.makeSlice {x y : Operand} {t e by_ : Nat} {z : Value} {n : Nat} (ht : P.underlying t = some (.slice e)) (hi : einf e = some (z, 1, by_)) (hz : z.cells = #[z]) (hx : E.ev x = some (.int .i64 (n : Int))) (hy : E.ev y = some (.int .i64 (n : Int))) (hn : by_ * n ≤ 281474976710656) (hm : n ≤ 140737488355328) (hd : Nat.blt d X.N = true)
    (h : ∀ b w', b = w.heap.size → Kt No w w' → w'.ownsRow 0 e 1 (.slice (some ⟨b, 0, none⟩) n n) n (List.replicate n z) → w'.heap.size = b + 1 → K ((d, .slice (some ⟨b, 0, none⟩) n n) :: E) w') :
    Stp X ⟨some d, .makeSlice t x y, ty, pos, aft, g⟩ E w K Kp := by
  obtain ⟨i, i1, i2, i3, i4⟩ := einf_spec hi
  have hr := run_make (P := P) w t e i z ht i1 i2 .i64 .i64 (n : Int) (n : Int) (by omega) (Int.le_refl _) (by rw [i4]; have h : ((by_ * n : Nat) : Int) ≤ 281474976710656 := (by omega); rwa [Int.natCast_mul] at h) (by omega)
  simp only [Int.toNat_natCast] at hr
  refine Stp.val (v := .slice (some ⟨w.heap.size, 0, none⟩) n n) (w' := w.alloc (.cells (madeCells z.cells (n * i.size)) e)) (by intro c e; cases e) (fun a ha g => by
    show Sem.run P (Instr.makeSlice t (a.eval x) (a.eval y) >>= fun r => pure (Next.value r)) w = _
    rw [ha.ev hx, ha.ev hy, Sem.run_bind, hr]; rfl) (fun a ha => ha.put hd) (h _ _ rfl (kt_alloc _ _) ⟨by simp, .inr ⟨_, n, _, rfl, Nat.zero_le _, alloc_new _ _, Nat.le_refl _, by unfold maxLen; omega, by rw [size_madeCells, i3], ?_⟩⟩ (by simp))
  rw [i3, hz]
  apply List.ext_getElem?
  intro k
  have hsz : (madeCells #[z] (n * 1)).toList = List.replicate n z := by
    unfold madeCells
    apply List.ext_getElem?
    intro j
    rw [Nat.mul_one]
    by_cases hj : j < n
    · simp [hj, Nat.mod_one]
    · simp [hj]
  rw [hsz, Nat.mul_one, List.take_of_length_le (by simp)]
end
end Go.Proofs.YtlcgeepjekcfgaaGreat
