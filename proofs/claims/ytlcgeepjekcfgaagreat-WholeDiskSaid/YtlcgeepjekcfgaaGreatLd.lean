/- The plain law, d: the lengths of chains. -/
import Derived.Test.YtlcgeepjekcfgaaGreatLc
namespace Go.Proofs.YtlcgeepjekcfgaaGreat
open Go.RowKit
set_option linter.unusedVariables false

theorem pieces_len : ∀ (k : Nat) (s : Bs), s.length ≤ k → (piecesP s).length = chP s.length := by
  intro k
  induction k with
  | zero =>
    intro s h
    have : s = [] := List.eq_nil_of_length_eq_zero (by omega)
    subst this
    rw [piecesP]; rfl
  | succ k ih =>
    intro s h
    rw [piecesP]
    split
    · rename_i h2
      rw [List.length_cons, ih _ (by rw [List.length_drop]; omega), List.length_drop]
      unfold chP; omega
    · split
      · rename_i h3; subst h3; rfl
      · rename_i h2 h3
        have h4 : 0 < s.length := List.length_pos_iff.2 h3
        show 1 = _
        unfold chP; omega
theorem chain_some {free : List Nat} {data : Bs} : (chainW free data).isSome = decide (chP data.length ≤ free.length) := by
  unfold chainW
  rw [pieces_len _ data (Nat.le_refl _)]
  by_cases h : free.length < chP data.length
  · rw [if_pos h, decide_eq_false (by omega)]; rfl
  · rw [if_neg h, decide_eq_true (by omega)]; rfl
theorem chain_len {free pages free' : List Nat} {data : Bs} {evs : List EvP} (h : chainW free data = some (pages, free', evs)) : free'.length + chP data.length = free.length ∧ evs.length = chP data.length ∧ pages.length = chP data.length := by
  unfold chainW at h
  rw [pieces_len _ data (Nat.le_refl _)] at h
  split at h
  · cases h
  · rename_i h1
    cases h
    have e : (free.take (chP data.length)).length = chP data.length := by rw [List.length_take]; omega
    refine ⟨by rw [List.length_drop]; omega, ?_, e⟩
    rw [linksP_len _ _ (by rw [e, pieces_len _ data (Nat.le_refl _)]), e]
theorem newP_cons (x : PitF) (r old : List PitF) : newP (x :: r) old = (if x ∈ old then 0 else chP x.2.length) + newP r old := by
  simp [newP]
/-- What the loop of a commit takes and writes. -/
theorem com_len {now : List (Bs × Bs)} {fs : List (Bs × (Bs × List Nat))} {old : List PitF} : ∀ (l : List PitF) (c : CSt), (∀ q ∈ l, mget now q.1 = some q.2) → (∀ q ∈ l, (oldP fs q.1 q.2).isSome = decide (q ∈ old)) →
    match comLoop now fs (l.map (·.1)) c with
    | none => c.free.length < newP l old
    | some c' => c'.free.length + newP l old = c.free.length ∧ c'.ev.length = c.ev.length + newP l old ∧ c'.dirB.length = c.dirB.length + (l.map fun q => q.1.length + 5).sum
  | [], c, _, _ => by simp [comLoop, newP]
  | x :: r, c, h1, h2 => by
    have hx := h1 x List.mem_cons_self
    have ho := h2 x List.mem_cons_self
    have h1' : ∀ q ∈ r, mget now q.1 = some q.2 := fun q hq => h1 q (List.mem_cons_of_mem _ hq)
    have h2' : ∀ q ∈ r, (oldP fs q.1 q.2).isSome = decide (q ∈ old) := fun q hq => h2 q (List.mem_cons_of_mem _ hq)
    rw [List.map_cons, comLoop, hx, newP_cons, List.map_cons, List.sum_cons]
    simp only [Option.getD_some]
    cases hold : oldP fs x.1 x.2 with
    | some l0 =>
      rw [hold] at ho
      have hin : x ∈ old := of_decide_eq_true ho.symm
      have ih := com_len (old := old) r (c.add x.1 x.2 l0) h1' h2'
      rw [if_pos hin]
      simp only
      revert ih
      cases comLoop now fs (r.map (·.1)) (c.add x.1 x.2 l0) with
      | none => intro ih; simp only [CSt.add] at ih ⊢; omega
      | some c' => intro ih; simp only [CSt.add, List.length_append, entP_len] at ih ⊢; omega
    | none =>
      rw [hold] at ho
      have hin : ¬ x ∈ old := of_decide_eq_false ho.symm
      rw [if_neg hin]
      simp only
      cases hch : chainW c.free x.2 with
      | none =>
        have := chain_some (free := c.free) (data := x.2)
        rw [hch] at this
        have := of_decide_eq_false this.symm
        simp only; omega
      | some t =>
        obtain ⟨pages, free, evs⟩ := t
        have hl := chain_len hch
        have ih := com_len (old := old) r ({ c with free := free, ev := c.ev ++ evs }.add x.1 x.2 pages) h1' h2'
        simp only
        revert ih
        cases comLoop now fs (r.map (·.1)) ({ c with free := free, ev := c.ev ++ evs }.add x.1 x.2 pages) with
        | none => intro ih; simp only [CSt.add] at ih ⊢; omega
        | some c' => intro ih; simp only [CSt.add, List.length_append, entP_len] at ih ⊢; omega
theorem comP_len {g k : Nat} {now : List (Bs × Bs)} {fs : List (Bs × (Bs × List Nat))} {free : List Nat} {l old : List PitF} (hg : g ≠ 1073741824) (hh : holds now l) (h2 : ∀ q ∈ l, (oldP fs q.1 q.2).isSome = decide (q ∈ old)) :
    match comP g k now fs free with
    | none => free.length < newP l old + dirP l
    | some c => newP l old + dirP l ≤ free.length ∧ c.ev.length = newP l old + dirP l + 3 := by
  have h := com_len (old := old) l ⟨free, [], [], []⟩ hh.2 h2
  unfold comP
  rw [if_neg hg, hh.1]
  revert h
  cases comLoop now fs (l.map (·.1)) ⟨free, [], [], []⟩ with
  | none => intro h; simp only at h ⊢; omega
  | some c =>
    intro h
    simp only [List.length_nil, Nat.zero_add] at h ⊢
    have hd : chP c.dirB.length = dirP l := by unfold dirP; rw [h.2.2]
    cases hch : chainW c.free c.dirB with
    | none =>
      have := chain_some (free := c.free) (data := c.dirB)
      rw [hch] at this
      have := of_decide_eq_false this.symm
      simp only; omega
    | some t =>
      obtain ⟨pages, fr, evs⟩ := t
      have hl := chain_len hch
      simp only [List.length_append, List.length_cons, List.length_nil]
      omega
end Go.Proofs.YtlcgeepjekcfgaaGreat
