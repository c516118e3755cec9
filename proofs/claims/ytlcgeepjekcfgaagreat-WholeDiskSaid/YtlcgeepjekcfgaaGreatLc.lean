/- The plain law, c: what a commit has to write anew. -/
import Derived.Test.YtlcgeepjekcfgaaGreatLb
namespace Go.Proofs.YtlcgeepjekcfgaaGreat
open Go.RowKit
set_option linter.unusedVariables false

theorem at_split {n : Bs} : ∀ {l : List PitF}, srt l → (∀ q ∈ l.take (atP l n), q.1 < n) ∧ ∀ q ∈ l.drop (atP l n), ¬ q.1 < n
  | [], _ => ⟨fun q hq => by simp at hq, fun q hq => by simp at hq⟩
  | x :: r, h => by
    have ih := at_split (n := n) (List.pairwise_cons.1 h).2
    rw [atP_cons]
    by_cases h1 : x.1 < n
    · rw [if_pos h1]
      refine ⟨fun q hq => ?_, fun q hq => ih.2 q (by simpa using hq)⟩
      rw [List.take_succ_cons] at hq
      rcases List.mem_cons.1 hq with rfl | hq
      · exact h1
      · exact ih.1 q hq
    · rw [if_neg h1]
      refine ⟨fun q hq => by simp at hq, fun q hq h2 => ?_⟩
      rw [List.drop_zero] at hq
      rcases List.mem_cons.1 hq with rfl | hq
      · exact h1 h2
      · exact h1 (List.lt_trans ((List.pairwise_cons.1 h).1 q hq) h2)
theorem cur_mem {old : List PitF} {c : Nat} {x : PitF} (ho : srt old) (hc : ∀ q ∈ old.take c, q.1 < x.1) : old[c + atP (old.drop c) x.1]? = some x ↔ x ∈ old := by
  refine ⟨List.mem_of_getElem?, fun hx => ?_⟩
  have hd : srt (old.drop c) := List.Pairwise.sublist (List.drop_sublist c old) ho
  have hs := at_split (n := x.1) hd
  have hm : srt ((old.drop c).drop (atP (old.drop c) x.1)) := List.Pairwise.sublist (List.drop_sublist _ _) hd
  rw [← List.take_append_drop c old, List.mem_append] at hx
  rcases hx with hx | hx
  · exact absurd (hc x hx) (List.lt_irrefl _)
  · rw [← List.take_append_drop (atP (old.drop c) x.1) (old.drop c), List.mem_append] at hx
    rcases hx with hx | hx
    · exact absurd (hs.1 x hx) (List.lt_irrefl _)
    · have h0 : ((old.drop c).drop (atP (old.drop c) x.1))[0]? = some x := by
        have h2 := hs.2
        generalize (old.drop c).drop (atP (old.drop c) x.1) = m at hx hm h2
        cases m with
        | nil => cases hx
        | cons y r =>
          rcases List.mem_cons.1 hx with rfl | hx
          · rfl
          · exact absurd ((List.pairwise_cons.1 hm).1 x hx) (h2 y List.mem_cons_self)
      rw [List.getElem?_drop, List.getElem?_drop] at h0
      exact h0
theorem use_new {old : List PitF} (ho : srt old) : ∀ (l : List PitF) (u : Nat × Nat × Nat × Nat), srt l → (∀ q ∈ old.take u.2.2.2, ∀ x ∈ l, q.1 < x.1) → (l.foldl (stepU old) u).2.1 = u.2.1 + (l.map fun q => if q ∈ old then 0 else chP q.2.length).sum
  | [], u, _, _ => rfl
  | x :: r, u, hl, hu => by
    have hm := cur_mem (x := x) ho (fun q hq => hu q hq x List.mem_cons_self)
    have ih := use_new ho r (stepU old u x) (List.pairwise_cons.1 hl).2 (by
      intro q hq y hy
      have hxy := (List.pairwise_cons.1 hl).1 y hy
      have hq2 : q ∈ old.take (u.2.2.2 + atP (old.drop u.2.2.2) x.1) := hq
      rw [List.take_add, List.mem_append] at hq2
      rcases hq2 with hq2 | hq2
      · exact hu q hq2 y (List.mem_cons_of_mem _ hy)
      · exact List.lt_trans ((at_split (n := x.1) (List.Pairwise.sublist (List.drop_sublist _ _) ho)).1 q hq2) hxy)
    rw [List.foldl_cons, List.map_cons, List.sum_cons, ih]
    have e : (stepU old u x).2.1 = if x ∈ old then u.2.1 else u.2.1 + chP x.2.length := by
      show (if old[u.2.2.2 + atP (old.drop u.2.2.2) x.1]? = some x then u.2.1 else u.2.1 + chP x.2.length) = _
      by_cases h : x ∈ old
      · rw [if_pos h, if_pos (hm.2 h)]
      · rw [if_neg h, if_neg (fun h' => h (hm.1 h'))]
    rw [e]
    split <;> omega
def newP (now old : List PitF) : Nat := (now.map fun q => if q ∈ old then 0 else chP q.2.length).sum
theorem pused_snd {now old : List PitF} (hn : srt now) (ho : srt old) : (pusedP now old).2 = newP now old + dirP now := by
  have h := use_fold old now (0, 0, 0, 0)
  have h2 := use_new ho now (0, 0, 0, 0) hn (by simp)
  unfold pusedP useTo newP dirP
  rw [List.take_length, h2, h.2]
  simp
end Go.Proofs.YtlcgeepjekcfgaaGreat
