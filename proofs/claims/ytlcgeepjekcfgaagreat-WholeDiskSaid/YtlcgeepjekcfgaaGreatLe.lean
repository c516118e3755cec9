/- The plain law, e: the free pages. -/
import Derived.Test.YtlcgeepjekcfgaaGreatLd
namespace Go.Proofs.YtlcgeepjekcfgaaGreat
open Go.RowKit
set_option linter.unusedVariables false

theorem freeTo_mem {U : List Nat} {n k : Nat} : k ∈ freeTo U n ↔ k < n ∧ 2 ≤ k ∧ k ∉ U := by
  simp [freeTo]
theorem freeTo_nodup (U : List Nat) (n : Nat) : (freeTo U n).Nodup := (List.filter_sublist).nodup List.nodup_range
theorem free_len {U : List Nat} (hn : U.Nodup) (hU : ∀ k ∈ U, 2 ≤ k ∧ k < 256) : (freeTo U 256).length + U.length = 254 := by
  have hA : (freeTo [] 256).length = 254 := by decide +kernel
  have hp : (freeTo U 256 ++ U).Perm (freeTo [] 256) := by
    refine (List.perm_ext_iff_of_nodup ?_ (freeTo_nodup _ _)).2 fun k => ?_
    · refine List.nodup_append.2 ⟨freeTo_nodup _ _, hn, fun a ha b hb e => ?_⟩
      subst e
      exact (freeTo_mem.1 ha).2.2 hb
    · rw [List.mem_append, freeTo_mem, freeTo_mem]
      constructor
      · rintro (⟨h1, h2, _⟩ | h)
        · exact ⟨h1, h2, by simp⟩
        · exact ⟨(hU k h).2, (hU k h).1, by simp⟩
      · rintro ⟨h1, h2, _⟩
        by_cases h : k ∈ U
        · exact .inr h
        · exact .inl ⟨h1, h2, h⟩
  have := hp.length_eq
  rw [List.length_append] at this
  omega
end Go.Proofs.YtlcgeepjekcfgaaGreat
