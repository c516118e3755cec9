/- The plain law, b: bounds. -/
import Derived.Test.YtlcgeepjekcfgaaGreatZl
namespace Go.Proofs.YtlcgeepjekcfgaaGreat
open Go.RowKit
set_option linter.unusedVariables false

theorem Sim.bnd {now : List (Bs × Bs)} {l : List PitF} (h : Sim now l) (hb : Bnd l) : (∀ q ∈ now, q.1.length ≤ 16 ∧ q.2.length ≤ 4000) ∧ now.length ≤ 30 := by
  refine ⟨fun q hq => ?_, by rw [h.len]; exact hb.1⟩
  have h1 : mget now q.1 = some q.2 := (mget_mem h.nd q.1 q.2).2 hq
  rw [h.eq] at h1
  exact ⟨(hb.2 (q.1, q.2) (mget_in h1)).1, (hb.2 (q.1, q.2) (mget_in h1)).2.1⟩
theorem Sim.of_perm {now now' : List (Bs × Bs)} {l : List PitF} (h : Sim now l) (hp : now'.Perm now) : Sim now' l := by
  have hn : (now'.map (·.1)).Nodup := (hp.map (·.1)).nodup_iff.2 h.nd
  exact ⟨hn, h.so, fun m => by rw [mget_perm hn hp]; exact h.eq m⟩
theorem use_fold (old : List PitF) : ∀ (l : List PitF) (u : Nat × Nat × Nat × Nat), (l.foldl (stepU old) u).1 = u.1 + (l.map fun q => chP q.2.length).sum ∧ (l.foldl (stepU old) u).2.2.1 = u.2.2.1 + (l.map fun q => q.1.length + 5).sum
  | [], u => ⟨rfl, rfl⟩
  | x :: r, u => by
    have ih := use_fold old r (stepU old u x)
    rw [List.foldl_cons, List.map_cons, List.map_cons, List.sum_cons, List.sum_cons]
    refine ⟨ih.1.trans ?_, ih.2.trans ?_⟩
    · show u.1 + chP x.2.length + _ = _; omega
    · show u.2.2.1 + (x.1.length + 5) + _ = _; omega
def pagesP (l : List PitF) : Nat := (l.map fun q => chP q.2.length).sum
def dirP (l : List PitF) : Nat := chP (l.map fun q => q.1.length + 5).sum
theorem pused_fst (now old : List PitF) : (pusedP now old).1 = pagesP now + dirP now := by
  have h := use_fold old now (0, 0, 0, 0)
  unfold pusedP useTo pagesP dirP
  rw [List.take_length, h.1, h.2]
  simp
end Go.Proofs.YtlcgeepjekcfgaaGreat
