/- Regions that draw their order, and whose last operation changes what the reads looked at. -/
import Derived.Test.YtlcgeepjekcfgaaGreatX
namespace Go.Proofs.YtlcgeepjekcfgaaGreat
open Go.RowKit
set_option linter.unusedVariables false
set_option linter.unusedSimpArgs false

section
variable {ro : Option Nat} {ops : Array Oper} {Q : Exit → Act → World → Prop} {S : World → Prop} {L : Nat → Bool}
/-- S holds as long as no operation of L has come (g). -/
def wpAnyG (ro : Option Nat) (ops : Array Oper) (Q : Exit → Act → World → Prop) (S : World → Prop) (L : Nat → Bool) : Nat → Bool → Array Bool → Act → World → Prop
  | 0, _, listed, a, w => Region.ready .any ops listed = [] ∧ Q .normal a w
  | fuel + 1, g, listed, a, w =>
    (Region.ready .any ops listed = [] → Q .normal a w) ∧
    ∀ i ∈ Region.ready .any ops listed, wpOpIn (Wd ro) 0 P ops Q i (fun a' w' => ((g && !L i) = true → S w') ∧ wpAnyG ro ops Q S L fuel (g && !L i) (listed.setIfInBounds i true) a' w') a w

theorem wpAny_of_G : ∀ (fuel : Nat) (g : Bool) (listed : Array Bool) (a : Act) (w : World), wpAnyG ro ops Q S L fuel g listed a w → wpAnyIn (Wd ro) 0 P .any ops Q fuel listed a w
  | 0, _, _, _, _, h => h
  | fuel + 1, _, _, _, _, h => ⟨h.1, fun i hi => wpOpIn_mono (fun a' w' h' => wpAny_of_G fuel _ _ a' w' h'.2) (h.2 i hi)⟩

/-- A read may come first that looks at what S says: no operation of L is ready before it has come. -/
theorem wpAnyG_dep {i : Nat} {oi : Oper} {v : Value} (hi : ops[i]? = some oi) (hLi : L i = false) (hnd : noDefer ops = true) (hsel : ∀ (j : Nat) (o : Oper) cs b, ops[j]? = some o → o.op ≠ .select cs b)
    (hQ : ∀ c a w, Q (.panic c) (a.put oi.dst v) w → Q (.panic c) a w)
    (hL : ∀ j oj, ops[j]? = some oj → L j = true → ∃ e ∈ oj.after, Region.binds .any e = true ∧ e.on = i) :
    ∀ (fuel : Nat) (listed : Array Bool) (a : Act) (w : World),
      (∀ j oj, ops[j]? = some oj → j ≠ i → listed.getD j true = false → (∀ e ∈ oj.after, Region.binds .any e = true → e.on ≠ i) → oi.apart ops oj = true) →
      i ∈ Region.ready .any ops listed → YieldsIf P ops S oi v a → S w →
      wpAnyG ro ops Q S L fuel true (listed.setIfInBounds i true) (a.put oi.dst v) w → wpAnyG ro ops Q S L (fuel + 1) true listed a w := by
  intro fuel
  induction fuel with
  | zero =>
    intro listed a w _ hr hy hS H
    refine ⟨fun h => (by rw [h] at hr; cases hr), fun j hj => ?_⟩
    by_cases hji : j = i
    · subst hji; exact yields_wpOpIn hi (noDefer_spec hnd hi) hy hS ⟨fun _ => hS, H⟩
    · have := ready_mono hj hji
      rw [H.1] at this
      cases this
  | succ fuel ih =>
    intro listed a w hfree hr hy hS H
    refine ⟨fun h => (by rw [h] at hr; cases hr), fun j hj => ?_⟩
    by_cases hji : j = i
    · subst hji
      refine yields_wpOpIn hi (noDefer_spec hnd hi) hy hS ⟨fun _ => hS, ?_⟩
      rw [hLi]; exact H
    · have h1 := H.2 j (ready_mono hj hji)
      obtain ⟨hjun, oj, hoj, hall⟩ := mem_ready.1 hj
      have hnot : ∀ e ∈ oj.after, Region.binds .any e = true → e.on ≠ i := fun e he hb heq => by
        have h1 := hall e he hb
        have h0 := (mem_ready.1 hr).1
        rw [heq] at h1
        rcases Nat.lt_or_ge i listed.size with h' | h'
        · simp [h'] at h0 h1; rw [h0] at h1; cases h1
        · simp [Array.getElem?_eq_none h'] at h1
      have h2 := wpOpIn_putIf hoj (hfree j oj hoj hji hjun hnot) (noDefer_spec hnd hoj) (fun cs b => hsel i oi cs b hi) (fun cs b => hsel j oj cs b hoj) hQ hy h1
      have hfree' : ∀ k ok, ops[k]? = some ok → k ≠ i → (listed.setIfInBounds j true).getD k true = false →
          (∀ e ∈ ok.after, Region.binds .any e = true → e.on ≠ i) → oi.apart ops ok = true := fun k ok hk hki hun hno => by
        refine hfree k ok hk hki ?_ hno
        by_cases hjk : j = k
        · subst hjk; exact hjun
        · rw [getD_set_ne true hjk] at hun; exact hun
      have hLj : L j = false := by
        cases hl : L j with
        | false => rfl
        | true =>
          obtain ⟨e, he, hb, heq⟩ := hL j oj hoj hl
          exact absurd heq (hnot e he hb)
      rw [hLj] at h2 ⊢
      refine wpOpIn_mono (fun a' w' h3 => ⟨h3.2.1, ih (listed.setIfInBounds j true) a' w' hfree' (ready_mono hr (Ne.symm hji)) h3.1 (h3.2.1 rfl) ?_⟩) h2
      rw [Array.setIfInBounds_comm _ _ hji]
      exact h3.2.2

/-- What looks at no memory may come first. -/
theorem wpAnyG_pure {i : Nat} {oi : Oper} {v : Value} (hi : ops[i]? = some oi) (hLi : L i = false) (hnd : noDefer ops = true) (hsel : ∀ (j : Nat) (o : Oper) cs b, ops[j]? = some o → o.op ≠ .select cs b)
    (hQ : ∀ c a w, Q (.panic c) (a.put oi.dst v) w → Q (.panic c) a w) :
    ∀ (fuel : Nat) (g : Bool) (listed : Array Bool) (a : Act) (w : World),
      (∀ j oj, ops[j]? = some oj → j ≠ i → listed.getD j true = false → (∀ e ∈ oj.after, Region.binds .any e = true → e.on ≠ i) → oi.apart ops oj = true) →
      i ∈ Region.ready .any ops listed → YieldsIf P ops (fun _ => True) oi v a → (g = true → S w) →
      wpAnyG ro ops Q S L fuel g (listed.setIfInBounds i true) (a.put oi.dst v) w → wpAnyG ro ops Q S L (fuel + 1) g listed a w := by
  intro fuel
  induction fuel with
  | zero =>
    intro g listed a w _ hr hy hS H
    refine ⟨fun h => (by rw [h] at hr; cases hr), fun j hj => ?_⟩
    by_cases hji : j = i
    · subst hji; exact yields_wpOpIn hi (noDefer_spec hnd hi) hy trivial ⟨fun hg => hS (by revert hg; cases g <;> simp), H⟩
    · have := ready_mono hj hji
      rw [H.1] at this
      cases this
  | succ fuel ih =>
    intro g listed a w hfree hr hy hS H
    refine ⟨fun h => (by rw [h] at hr; cases hr), fun j hj => ?_⟩
    by_cases hji : j = i
    · subst hji
      refine yields_wpOpIn hi (noDefer_spec hnd hi) hy trivial ⟨fun hg => hS (by revert hg; cases g <;> simp), ?_⟩
      rw [hLi]; simpa using H
    · have h1 := H.2 j (ready_mono hj hji)
      obtain ⟨hjun, oj, hoj, hall⟩ := mem_ready.1 hj
      have hnot : ∀ e ∈ oj.after, Region.binds .any e = true → e.on ≠ i := fun e he hb heq => by
        have h1 := hall e he hb
        have h0 := (mem_ready.1 hr).1
        rw [heq] at h1
        rcases Nat.lt_or_ge i listed.size with h' | h'
        · simp [h'] at h0 h1; rw [h0] at h1; cases h1
        · simp [Array.getElem?_eq_none h'] at h1
      have h2 := wpOpIn_putIf hoj (hfree j oj hoj hji hjun hnot) (noDefer_spec hnd hoj) (fun cs b => hsel i oi cs b hi) (fun cs b => hsel j oj cs b hoj) hQ hy h1
      have hfree' : ∀ k ok, ops[k]? = some ok → k ≠ i → (listed.setIfInBounds j true).getD k true = false →
          (∀ e ∈ ok.after, Region.binds .any e = true → e.on ≠ i) → oi.apart ops ok = true := fun k ok hk hki hun hno => by
        refine hfree k ok hk hki ?_ hno
        by_cases hjk : j = k
        · subst hjk; exact hjun
        · rw [getD_set_ne true hjk] at hun; exact hun
      refine wpOpIn_mono (fun a' w' h3 => ⟨h3.2.1, ih (g && !L j) (listed.setIfInBounds j true) a' w' hfree' (ready_mono hr (Ne.symm hji)) h3.1 h3.2.1 ?_⟩) h2
      rw [Array.setIfInBounds_comm _ _ hji]
      exact h3.2.2
end

/-- An operation of L comes behind the read i, by its own edges. -/
def depOk (ops : Array Oper) (L : Nat → Bool) (i : Nat) : Bool := (List.range ops.size).all fun j => !L j || (match ops[j]? with | some o => o.after.any fun e => Region.binds .any e && e.on == i | none => true)
theorem depOk_spec {ops : Array Oper} {L : Nat → Bool} {i : Nat} (h : depOk ops L i = true) : ∀ j oj, ops[j]? = some oj → L j = true → ∃ e ∈ oj.after, Region.binds .any e = true ∧ e.on = i := by
  intro j oj hj hl
  unfold depOk at h
  rw [List.all_eq_true] at h
  have h1 := h j (List.mem_range.2 (Array.getElem?_eq_some_iff.1 hj).1)
  rw [hl, hj] at h1
  simp only [Bool.not_true, Bool.false_or] at h1
  rw [← Array.any_toList, List.any_eq_true] at h1
  obtain ⟨e, he, h2⟩ := h1
  replace he := Array.mem_toList_iff.1 he
  simp only [Bool.and_eq_true, beq_iff_eq] at h2
  exact ⟨e, he, h2.1, h2.2⟩

def RunG (X : Cx) (D : DCx) (L : Nat → Bool) (g : Bool) (l : List (Nat × Bool)) (E : Env) (w : World) : Prop :=
  ∀ a, Fits X E a → ∀ listed, ordOk D.ops listed l = true → wpAnyG X.ro D.ops D.Q D.S L l.length g listed a w
section
variable {X : Cx} {D : DCx} {L : Nat → Bool} {g : Bool} {E : Env} {w : World} {l : List (Nat × Bool)}
theorem RunG.nil (h : At X D.Q .normal E w) : RunG X D L g [] E w := fun a ha listed ho => ⟨by simpa [ordOk] using ho, h a ha⟩
theorem RunG.ev {i d : Nat} {op : Op} {ty : TypeId} {pos : String} {aft : Array Edge} {gd : Option (Nat × Bool)} {v : Value} (hi : D.ops[i]? = some ⟨some d, op, ty, pos, aft, gd⟩) (hLi : L i = false) (hdep : depOk D.ops L i = true) (he : ∀ w', D.S w' → Ev X op ty E w' v w') (hS : D.S w)
    (hg : gst D.ops gd E = some true) (hd : Nat.blt d X.N = true) (h : RunG X D L true l ((d, v) :: E) w) : RunG X D L true ((i, true) :: l) E w := by
  intro a ha listed ho
  simp only [ordOk, Bool.and_eq_true] at ho
  obtain ⟨⟨h1, h2⟩, h3⟩ := ho
  exact wpAnyG_dep hi hLi D.def_ (Region.noSelect_spec D.sel) (fun c a w => D.pq c _ _ w rfl) (depOk_spec hdep) _ listed a w (Region.free_spec hi h1) (by simpa using h2)
    (.inl ⟨gst_wanted (o := ⟨some d, op, ty, pos, aft, gd⟩) ha hg, fun w' hS' => (he w' hS').2 a ha _ _ _ _⟩) hS (h _ (ha.put hd) _ h3)
theorem RunG.pure {i d : Nat} {op : Op} {ty : TypeId} {pos : String} {aft : Array Edge} {gd : Option (Nat × Bool)} {v : Value} (hi : D.ops[i]? = some ⟨some d, op, ty, pos, aft, gd⟩) (hLi : L i = false) (he : ∀ w', Ev X op ty E w' v w') (hS : g = true → D.S w)
    (hg : gst D.ops gd E = some true) (hd : Nat.blt d X.N = true) (h : RunG X D L g l ((d, v) :: E) w) : RunG X D L g ((i, true) :: l) E w := by
  intro a ha listed ho
  simp only [ordOk, Bool.and_eq_true] at ho
  obtain ⟨⟨h1, h2⟩, h3⟩ := ho
  exact wpAnyG_pure hi hLi D.def_ (Region.noSelect_spec D.sel) (fun c a w => D.pq c _ _ w rfl) _ g listed a w (Region.free_spec hi h1) (by simpa using h2)
    (.inl ⟨gst_wanted (o := ⟨some d, op, ty, pos, aft, gd⟩) ha hg, fun w' _ => (he w').2 a ha _ _ _ _⟩) hS (h _ (ha.put hd) _ h3)
theorem RunG.step {i : Nat} {o : Oper} (hi : D.ops[i]? = some o) (hg : gst D.ops o.guard E = some true) (h : Stp X o E w (fun E' w' => ((g && !L i) = true → D.S w') ∧ RunG X D L (g && !L i) l E' w') (fun c w' => At X D.Q (.panic c) E w')) : RunG X D L g ((i, false) :: l) E w := by
  intro a ha listed ho
  simp only [ordOk, Bool.and_eq_true, beq_iff_eq] at ho
  obtain ⟨h1, h3⟩ := ho
  refine ⟨fun e => (by rw [h1] at e; cases e), fun j hj => ?_⟩
  rw [h1] at hj
  obtain rfl : j = i := by simpa using hj
  unfold wpOpIn
  rw [hi]
  simp only
  rw [if_pos (gst_wanted ha hg)]
  refine wpIn_two ?_ ?_ ?_ (h a ha o.guard)
  · rintro a' w' ⟨E', hE, hS, hr⟩; exact ⟨hS, hr a' hE _ h3⟩
  · rintro c a' w' ⟨c', hc, rfl, hp⟩; cases hc; exact hp a' ha
  · rintro a' w' ⟨c', hc, _⟩; cases hc
theorem W.drawG {id : Nat} {ops : Array Oper} {Q : Exit → Act → World → Prop} (S : World → Prop) (L : Nat → Bool) (l : List (Nat × Bool)) (pq : PQ Q) (sel : Region.noSelect ops = true) (def_ : noDefer ops = true)
    (ho : ordOk ops (Array.replicate ops.size false) l = true) (hl : l.length = ops.size) (h : RunG X ⟨ops, Q, S, pq, sel, def_⟩ L true l E w.drew) : W X (.region id ops true) Q E w := by
  intro a ha
  refine wpIn_region_any mixed ?_
  have := wpAny_of_G _ _ _ _ _ (h a ha _ ho)
  rw [hl] at this
  exact this
end
end Go.Proofs.YtlcgeepjekcfgaaGreat
