/- Rules of guarded operations whose guard is not known, joined; calls that are guarded; regions without one order. -/
import Derived.Test.YtlcgeepjekcfgaaGreatH
namespace Go.Proofs.YtlcgeepjekcfgaaGreat
open Go.RowKit
set_option linter.unusedVariables false
set_option linter.unusedSimpArgs false

section
variable {X : Cx} {ops : Array Oper} {Q : Exit → Act → World → Prop} {E : Env} {w : World} {rest : List Oper}

/-- What the guard of an operation looks at: known to be a truth value, or that if p holds and nothing else. -/
def guardSlot (ops : Array Oper) (g : Option (Nat × Bool)) : Option (Nat × Bool) := match g with
  | none => none
  | some (j, want) => (guardTmp ops j).map fun t => (t, want)

theorem wanted_b {a : Act} {o : Oper} {t : Nat} {want b : Bool} (ha : Fits X E a) (hg : guardSlot ops o.guard = some (t, want)) (hb : E.get? t = some (.bool b)) : Region.wanted o (yielded ops a.tmps) = decide (b = want) := by
  unfold guardSlot at hg
  cases ho : o.guard with
  | none => rw [ho] at hg; cases hg
  | some jw =>
    obtain ⟨j, wt⟩ := jw
    rw [ho] at hg
    simp only [Option.map_eq_some_iff, Prod.mk.injEq] at hg
    obtain ⟨t', h1, rfl, rfl⟩ := hg
    rw [wanted_env ha ho h1 hb]
    cases b <;> cases wt <;> rfl

theorem wanted_if {a : Act} {o : Oper} {t : Nat} {p : Prop} [Decidable p] {want b : Bool} (ha : Fits X E a) (hg : guardSlot ops o.guard = some (t, want)) (hb : E.get? t = some (if p then .bool b else undef)) : Region.wanted o (yielded ops a.tmps) = decide (p ∧ b = want) := by
  by_cases hp : p
  · rw [if_pos hp] at hb
    rw [wanted_b ha hg hb]
    simp [hp]
  · rw [if_neg hp] at hb
    simp only [hp, false_and, decide_false]
    unfold guardSlot at hg
    cases ho : o.guard with
    | none => rw [ho] at hg; cases hg
    | some jw =>
      obtain ⟨j, wt⟩ := jw
      rw [ho] at hg
      simp only [Option.map_eq_some_iff, Prod.mk.injEq] at hg
      obtain ⟨t', h1, rfl, rfl⟩ := hg
      have h2 := ha.get t' _ hb
      unfold guardTmp at h1
      simp [Region.wanted, ho, yielded, h1, h2, undef]

theorem Run.guarded {d : Nat} {op : Op} {ty : TypeId} {pos : String} {aft : Array Edge} {g : Option (Nat × Bool)} {v : Value} {p : Prop} [Decidable p] (hw : ∀ a, Fits X E a → Region.wanted ⟨some d, op, ty, pos, aft, g⟩ (yielded ops a.tmps) = decide p) (he : p → Ev X op ty E w v w) (hd : Nat.blt d X.N = true)
    (h : Run X ops Q rest ((d, if p then v else undef) :: E) w) : Run X ops Q (⟨some d, op, ty, pos, aft, g⟩ :: rest) E w := by
  intro a ha
  simp only [wpLs]
  rw [hw a ha]
  by_cases hp : p
  · rw [if_pos (by simpa using hp)]
    refine ⟨fun _ _ => trivial, ?_⟩
    rw [Oper.semAt_eq _ _ _ (he hp).1, (he hp).2 a ha]
    have := h _ (ha.put hd)
    rw [if_pos hp] at this
    exact this
  · rw [if_neg (by simpa using hp)]
    have := h _ (ha.put hd)
    rw [if_neg hp] at this
    exact this

theorem Run.evg {d t : Nat} {want b : Bool} {op : Op} {ty : TypeId} {pos : String} {aft : Array Edge} {g : Option (Nat × Bool)} {v : Value} (hg : guardSlot ops g = some (t, want)) (hb : E.get? t = some (.bool b)) (he : b = want → Ev X op ty E w v w) (hd : Nat.blt d X.N = true)
    (h : Run X ops Q rest ((d, if b = want then v else undef) :: E) w) : Run X ops Q (⟨some d, op, ty, pos, aft, g⟩ :: rest) E w :=
  Run.guarded (fun a ha => wanted_b ha hg hb) he hd h
theorem Run.evh {d t : Nat} {p : Prop} [Decidable p] {want b : Bool} {op : Op} {ty : TypeId} {pos : String} {aft : Array Edge} {g : Option (Nat × Bool)} {v : Value} (hg : guardSlot ops g = some (t, want)) (hb : E.get? t = some (if p then .bool b else undef)) (he : p ∧ b = want → Ev X op ty E w v w) (hd : Nat.blt d X.N = true)
    (h : Run X ops Q rest ((d, if p ∧ b = want then v else undef) :: E) w) : Run X ops Q (⟨some d, op, ty, pos, aft, g⟩ :: rest) E w :=
  Run.guarded (fun a ha => wanted_if ha hg hb) he hd h

/-- A guarded call that changes nothing that lay there. -/
theorem Run.callg {d t : Nat} {want b : Bool} {k : FuncId} {args : Array Operand} {ats : Array TypeId} {vs : List Value} {ty : TypeId} {pos : String} {aft : Array Edge} {g : Option (Nat × Bool)} {v : Value} (hen : Enters P k) (hg : guardSlot ops g = some (t, want)) (hb : E.get? t = some (.bool b))
    (hx : b = want → E.evs args.toList = some vs) (hc : b = want → Calls P k vs.toArray w (Ret fun v' w' => v' = v ∧ Kt No w w')) (hd : Nat.blt d X.N = true)
    (h : ∀ w', Kt No w w' → Run X ops Q rest ((d, if b = want then v else undef) :: E) w') : Run X ops Q (⟨some d, .call { callee := .value (.func k), args := args, argTypes := ats }, ty, pos, aft, g⟩ :: rest) E w := by
  by_cases hp : b = want
  · simp only [if_pos hp] at h
    intro a ha
    simp only [wpLs]
    rw [wanted_b (o := ⟨some d, .call { callee := .value (.func k), args := args, argTypes := ats }, ty, pos, aft, g⟩) ha hg hb, if_pos (by simpa using hp)]
    refine wpIn_two ?_ ?_ ?_ (Stp.callr (g := none) (K := fun E' w' => Run X ops Q rest E' w') (Kp := fun _ _ => False) (ats := ats) hen (hx hp) (hc hp) hd (fun v' w' ⟨h1, h2⟩ => h1 ▸ h w' h2) a ha g)
    · rintro a' w' ⟨E', hE, hr⟩; exact hr a' hE
    · rintro c a' w' ⟨c', hc, rfl, hp⟩; exact hp.elim
    · rintro a' w' ⟨c', hc, _⟩; cases hc
  · simp only [if_neg hp] at h
    intro a ha
    simp only [wpLs]
    rw [wanted_b (o := ⟨some d, .call { callee := .value (.func k), args := args, argTypes := ats }, ty, pos, aft, g⟩) ha hg hb, if_neg (by simpa using hp)]
    exact h w (Kt.refl _ _) _ (ha.put hd)

theorem Ev.pick_and {ty : TypeId} {c x y : Operand} {b B : Bool} (hc : E.ev c = some (.bool b)) (hx : E.ev x = some (if b = true then .bool B else undef)) (hy : E.ev y = some (.bool false)) : Ev X (.pick c x y) ty E w (.bool (b && B)) w := by
  cases b with
  | true => exact Ev.to (v := .bool B) (by simp) (Ev.pick_t hc (hx.trans (by rw [if_pos rfl])))
  | false => exact Ev.to (by simp) (Ev.pick_f hc hy)
theorem Ev.pick_or {ty : TypeId} {c x y : Operand} {b B : Bool} (hc : E.ev c = some (.bool b)) (hx : E.ev x = some (.bool true)) (hy : E.ev y = some (if b = false then .bool B else undef)) : Ev X (.pick c x y) ty E w (.bool (b || B)) w := by
  cases b with
  | true => exact Ev.to (by simp) (Ev.pick_t hc hx)
  | false => exact Ev.to (v := .bool B) (by simp) (Ev.pick_f hc (hy.trans (by rw [if_pos rfl])))
theorem Ev.pick_andh {ty : TypeId} {c x y : Operand} {p : Prop} [Decidable p] {b B : Bool} (h : p) (hc : E.ev c = some (if p then .bool b else undef)) (hx : E.ev x = some (if p ∧ b = true then .bool B else undef)) (hy : E.ev y = some (.bool false)) : Ev X (.pick c x y) ty E w (.bool (b && B)) w :=
  Ev.pick_and (hc.trans (by rw [if_pos h])) (hx.trans (by simp [h])) hy
theorem Ev.pick_orh {ty : TypeId} {c x y : Operand} {p : Prop} [Decidable p] {b B : Bool} (h : p) (hc : E.ev c = some (if p then .bool b else undef)) (hx : E.ev x = some (.bool true)) (hy : E.ev y = some (if p ∧ b = false then .bool B else undef)) : Ev X (.pick c x y) ty E w (.bool (b || B)) w :=
  Ev.pick_or (hc.trans (by rw [if_pos h])) hx (hy.trans (by simp [h]))
theorem ifp {p : Prop} [Decidable p] {v u : Value} (h : p) : some (if p then v else u) = some v := by rw [if_pos h]
end

section
variable {X : Cx} {D : DCx} {E : Env} {w : World} {l : List (Nat × Bool)}
theorem RunD.guarded {i d : Nat} {op : Op} {ty : TypeId} {pos : String} {aft : Array Edge} {g : Option (Nat × Bool)} {v : Value} {p : Prop} [Decidable p] (hi : D.ops[i]? = some ⟨some d, op, ty, pos, aft, g⟩) (hw : ∀ a, Fits X E a → Region.wanted ⟨some d, op, ty, pos, aft, g⟩ (yielded D.ops a.tmps) = decide p) (he : p → ∀ w', D.S w' → Ev X op ty E w' v w') (hS : D.S w)
    (hd : Nat.blt d X.N = true) (h : RunD X D l ((d, if p then v else undef) :: E) w) : RunD X D ((i, true) :: l) E w := by
  intro a ha listed ho
  simp only [ordOk, Bool.and_eq_true] at ho
  obtain ⟨⟨h1, h2⟩, h3⟩ := ho
  refine wpAnyW_first hi D.def_ (Region.noSelect_spec D.sel) (fun c a w => D.pq c _ _ w rfl) _ listed a w (Region.free_spec hi h1) (by simpa using h2)
    (v := if p then v else undef) ?_ hS (h _ (ha.put hd) _ h3)
  by_cases hp : p
  · exact .inl ⟨by rw [hw a ha]; simpa using hp, fun w' hS' => by rw [if_pos hp]; exact (he hp w' hS').2 a ha _ _ _ _⟩
  · exact .inr ⟨by rw [hw a ha]; simpa using hp, by rw [if_neg hp]⟩
theorem RunD.evg {i d t : Nat} {want b : Bool} {op : Op} {ty : TypeId} {pos : String} {aft : Array Edge} {g : Option (Nat × Bool)} {v : Value} (hi : D.ops[i]? = some ⟨some d, op, ty, pos, aft, g⟩) (hg : guardSlot D.ops g = some (t, want)) (hb : E.get? t = some (.bool b)) (he : b = want → ∀ w', D.S w' → Ev X op ty E w' v w') (hS : D.S w)
    (hd : Nat.blt d X.N = true) (h : RunD X D l ((d, if b = want then v else undef) :: E) w) : RunD X D ((i, true) :: l) E w :=
  RunD.guarded hi (fun a ha => wanted_b ha hg hb) he hS hd h
theorem RunD.evh {i d t : Nat} {p : Prop} [Decidable p] {want b : Bool} {op : Op} {ty : TypeId} {pos : String} {aft : Array Edge} {g : Option (Nat × Bool)} {v : Value} (hi : D.ops[i]? = some ⟨some d, op, ty, pos, aft, g⟩) (hg : guardSlot D.ops g = some (t, want)) (hb : E.get? t = some (if p then .bool b else undef)) (he : p ∧ b = want → ∀ w', D.S w' → Ev X op ty E w' v w') (hS : D.S w)
    (hd : Nat.blt d X.N = true) (h : RunD X D l ((d, if p ∧ b = want then v else undef) :: E) w) : RunD X D ((i, true) :: l) E w :=
  RunD.guarded hi (fun a ha => wanted_if ha hg hb) he hS hd h

/-- Two operations are ready. -/
def RunF (X : Cx) (D : DCx) (n : Nat) (listed : Array Bool) (E : Env) (w : World) : Prop := ∀ a, Fits X E a → wpAnyW X.ro D.ops D.Q D.S n listed a w
theorem RunF.of {listed : Array Bool} {n : Nat} (l : List (Nat × Bool)) (ho : ordOk D.ops listed l = true) (hl : l.length = n) (h : RunD X D l E w) : RunF X D n listed E w := fun a ha => by subst hl; exact h a ha listed ho
theorem RunF.fork {listed : Array Bool} {n i j : Nat} {o p : Oper} (hr : Region.ready .any D.ops listed = [i, j]) (hi : D.ops[i]? = some o) (hj : D.ops[j]? = some p) (hg : gst D.ops o.guard E = some true) (hg' : gst D.ops p.guard E = some true)
    (h : Stp X o E w (fun E' w' => D.S w' ∧ RunF X D n (listed.setIfInBounds i true) E' w') (fun c w' => At X D.Q (.panic c) E w'))
    (h' : Stp X p E w (fun E' w' => D.S w' ∧ RunF X D n (listed.setIfInBounds j true) E' w') (fun c w' => At X D.Q (.panic c) E w')) : RunF X D (n + 1) listed E w := by
  intro a ha
  refine ⟨fun e => (by rw [hr] at e; cases e), fun k hk => ?_⟩
  rw [hr] at hk
  have hk' : k = i ∨ k = j := by simpa using hk
  rcases hk' with rfl | rfl
  · unfold wpOpIn
    rw [hi]
    simp only
    rw [if_pos (gst_wanted ha hg)]
    refine wpIn_two ?_ ?_ ?_ (h a ha o.guard)
    · rintro a' w' ⟨E', hE, hS, hr⟩; exact ⟨hS, hr a' hE⟩
    · rintro c a' w' ⟨c', hc, rfl, hp⟩; cases hc; exact hp a' ha
    · rintro a' w' ⟨c', hc, _⟩; cases hc
  · unfold wpOpIn
    rw [hj]
    simp only
    rw [if_pos (gst_wanted ha hg')]
    refine wpIn_two ?_ ?_ ?_ (h' a ha p.guard)
    · rintro a' w' ⟨E', hE, hS, hr⟩; exact ⟨hS, hr a' hE⟩
    · rintro c a' w' ⟨c', hc, rfl, hp⟩; cases hc; exact hp a' ha
    · rintro a' w' ⟨c', hc, _⟩; cases hc
theorem RunF.ev {listed : Array Bool} {n i d : Nat} {op : Op} {ty : TypeId} {pos : String} {aft : Array Edge} {g : Option (Nat × Bool)} {v : Value} (hi : D.ops[i]? = some ⟨some d, op, ty, pos, aft, g⟩) (hf : Region.free .any D.ops listed i = true) (hr : (Region.ready .any D.ops listed).contains i = true) (he : ∀ w', D.S w' → Ev X op ty E w' v w') (hS : D.S w)
    (hg : gst D.ops g E = some true) (hd : Nat.blt d X.N = true) (h : RunF X D n (listed.setIfInBounds i true) ((d, v) :: E) w) : RunF X D (n + 1) listed E w := by
  intro a ha
  exact wpAnyW_first hi D.def_ (Region.noSelect_spec D.sel) (fun c a w => D.pq c _ _ w rfl) _ listed a w (Region.free_spec hi hf) (by simpa using hr)
    (.inl ⟨gst_wanted (o := ⟨some d, op, ty, pos, aft, g⟩) ha hg, fun w' hS' => (he w' hS').2 a ha _ _ _ _⟩) hS (h _ (ha.put hd))
theorem W.drawF {id : Nat} {ops : Array Oper} {Q : Exit → Act → World → Prop} (S : World → Prop) (n : Nat) (pq : PQ Q) (sel : Region.noSelect ops = true) (def_ : noDefer ops = true) (hn : ops.size = n) (h : RunF X ⟨ops, Q, S, pq, sel, def_⟩ n (Array.replicate n false) E w.drew) : W X (.region id ops true) Q E w := by
  intro a ha
  subst hn
  exact wpIn_region_any mixed (wpAny_of_W _ _ _ _ (h a ha))
end
end Go.Proofs.YtlcgeepjekcfgaaGreat
