/- The plain law, a: the pit's rows and the store's map. -/
import Derived.Test.YtlcgeepjekcfgaaGreatZi
namespace Go.Proofs.YtlcgeepjekcfgaaGreat
open Go.RowKit
set_option linter.unusedVariables false
set_option linter.unusedSimpArgs false

def srt (l : List PitF) : Prop := l.Pairwise (fun a b => a.1 < b.1)
theorem less_iff (a b : Bs) : Op.bytesLess a b = decide (a < b) := bytesLess_eq a b
theorem bs_tri {a b : Bs} (h1 : ¬ a < b) (h2 : a ≠ b) : b < a := by
  rcases Decidable.em (b < a) with h | h
  · exact h
  · exact absurd (List.le_antisymm (List.not_lt.1 h) (List.not_lt.1 h1)) h2
theorem bs_ne {a b : Bs} (h : a < b) : a ≠ b := by rintro rfl; exact List.lt_irrefl _ h
theorem atP_cons (x : PitF) (r : List PitF) (n : Bs) : atP (x :: r) n = if x.1 < n then atP r n + 1 else 0 := by
  unfold atP
  rw [List.takeWhile_cons, less_iff]
  by_cases h : x.1 < n <;> simp [h]
theorem hasP_cons (x : PitF) (r : List PitF) (n : Bs) : hasP (x :: r) n = if x.1 < n then hasP r n else decide (x.1 = n) := by
  unfold hasP
  rw [atP_cons]
  by_cases h : x.1 < n <;> simp [h]
theorem putP_nil (n d : Bs) : putP [] n d = [(n, d)] := by simp [putP]
theorem putP_cons (x : PitF) (r : List PitF) (n d : Bs) : putP (x :: r) n d = if x.1 < n then x :: putP r n d else if x.1 = n then (n, d) :: r else (n, d) :: x :: r := by
  unfold putP
  rw [atP_cons, hasP_cons]
  by_cases h : x.1 < n
  · simp only [if_pos h]
    by_cases h2 : hasP r n = true <;> simp [h2]
  · simp only [if_neg h]
    by_cases h2 : x.1 = n <;> simp [h2]
theorem dropP_cons (x : PitF) (r : List PitF) (n : Bs) : dropP (x :: r) (atP (x :: r) n) = if x.1 < n then x :: dropP r (atP r n) else r := by
  unfold dropP
  rw [atP_cons]
  by_cases h : x.1 < n <;> simp [h]
theorem mget_cons (x : PitF) (r : List PitF) (m : Bs) : mget (x :: r) m = if x.1 = m then some x.2 else mget r m := by
  show (if m = x.1 then some x.2 else mget r m) = _
  by_cases h : x.1 = m
  · rw [if_pos h, if_pos h.symm]
  · rw [if_neg h, if_neg (Ne.symm h)]
theorem srt_none {x : PitF} {r : List PitF} {n : Bs} (h : srt (x :: r)) (hn : n < x.1) : mget r n = none := by
  rw [mget_none_iff]
  intro hm
  obtain ⟨y, hy, rfl⟩ := List.mem_map.1 hm
  exact List.lt_irrefl _ (List.lt_trans hn ((List.pairwise_cons.1 h).1 y hy))
theorem srt_self {x : PitF} {r : List PitF} (h : srt (x :: r)) : mget r x.1 = none := by
  rw [mget_none_iff]
  intro hm
  obtain ⟨y, hy, he⟩ := List.mem_map.1 hm
  exact bs_ne ((List.pairwise_cons.1 h).1 y hy) he.symm
theorem has_mget {n : Bs} : ∀ {l : List PitF}, srt l → hasP l n = (mget l n).isSome ∧ ∀ d, mget l n = some d → l[atP l n]? = some (n, d)
  | [], _ => ⟨rfl, fun d h => by cases h⟩
  | x :: r, h => by
    have ih := has_mget (n := n) (List.pairwise_cons.1 h).2
    rw [hasP_cons, atP_cons, mget_cons]
    by_cases h1 : x.1 < n
    · rw [if_pos h1, if_neg (bs_ne h1), if_pos h1]
      exact ⟨ih.1, fun d hd => by simpa using ih.2 d hd⟩
    · rw [if_neg h1, if_neg h1]
      by_cases h2 : x.1 = n
      · rw [if_pos h2]
        exact ⟨by simp [h2], fun d hd => by cases hd; subst h2; rfl⟩
      · rw [if_neg h2, srt_none h (bs_tri h1 h2)]
        exact ⟨by simp [h2], fun d hd => by cases hd⟩
theorem put_keys {n d : Bs} : ∀ {l : List PitF} {y : PitF}, y ∈ putP l n d → y = (n, d) ∨ y ∈ l
  | [], y, h => by rw [putP_nil] at h; exact .inl (by simpa using h)
  | x :: r, y, h => by
    rw [putP_cons] at h
    split at h
    · rcases List.mem_cons.1 h with h | h
      · exact .inr (h ▸ List.mem_cons_self)
      · exact (put_keys h).imp id (List.mem_cons_of_mem _)
    · split at h
      · rcases List.mem_cons.1 h with h | h
        · exact .inl h
        · exact .inr (List.mem_cons_of_mem _ h)
      · rcases List.mem_cons.1 h with h | h
        · exact .inl h
        · exact .inr h
theorem put_spec {n d : Bs} : ∀ {l : List PitF}, srt l → srt (putP l n d) ∧ ∀ m, mget (putP l n d) m = if m = n then some d else mget l m
  | [], _ => by
    rw [putP_nil]
    refine ⟨List.pairwise_singleton _ _, fun m => ?_⟩
    rw [mget_cons]
    by_cases h : n = m
    · subst h; simp
    · rw [if_neg h, if_neg (Ne.symm h)]
  | x :: r, h => by
    have ih := put_spec (n := n) (d := d) (List.pairwise_cons.1 h).2
    rw [putP_cons]
    by_cases h1 : x.1 < n
    · rw [if_pos h1]
      refine ⟨List.pairwise_cons.2 ⟨fun y hy => ?_, ih.1⟩, fun m => ?_⟩
      · rcases put_keys hy with rfl | hy
        · exact h1
        · exact (List.pairwise_cons.1 h).1 y hy
      · rw [mget_cons, mget_cons, ih.2 m]
        by_cases hm : x.1 = m
        · subst hm; simp [bs_ne h1]
        · simp [hm]
    · rw [if_neg h1]
      by_cases h2 : x.1 = n
      · rw [if_pos h2]
        refine ⟨List.pairwise_cons.2 ⟨fun y hy => h2 ▸ (List.pairwise_cons.1 h).1 y hy, (List.pairwise_cons.1 h).2⟩, fun m => ?_⟩
        rw [mget_cons, mget_cons]
        subst h2
        by_cases hm : x.1 = m
        · simp [hm]
        · simp [hm, Ne.symm hm]
      · rw [if_neg h2]
        have h3 := bs_tri h1 h2
        refine ⟨List.pairwise_cons.2 ⟨fun y hy => ?_, h⟩, fun m => ?_⟩
        · rcases List.mem_cons.1 hy with rfl | hy
          · exact h3
          · exact List.lt_trans h3 ((List.pairwise_cons.1 h).1 y hy)
        · rw [mget_cons]
          by_cases hm : n = m
          · subst hm; simp
          · rw [if_neg hm, if_neg (Ne.symm hm)]
theorem drop_spec {n : Bs} : ∀ {l : List PitF}, srt l → (mget l n).isSome = true → srt (dropP l (atP l n)) ∧ ∀ m, mget (dropP l (atP l n)) m = if m = n then none else mget l m
  | [], _, h => by cases h
  | x :: r, h, hs => by
    rw [dropP_cons]
    rw [mget_cons] at hs
    by_cases h1 : x.1 < n
    · rw [if_neg (bs_ne h1)] at hs
      have ih := drop_spec (n := n) (List.pairwise_cons.1 h).2 hs
      rw [if_pos h1]
      refine ⟨List.pairwise_cons.2 ⟨fun y hy => (List.pairwise_cons.1 h).1 y ?_, ih.1⟩, fun m => ?_⟩
      · unfold dropP at hy
        rcases List.mem_append.1 hy with hy | hy
        · exact List.mem_of_mem_take hy
        · exact List.mem_of_mem_drop hy
      · rw [mget_cons, mget_cons, ih.2 m]
        by_cases hm : x.1 = m
        · subst hm; simp [bs_ne h1]
        · simp [hm]
    · rw [if_neg h1]
      have h2 : x.1 = n := by
        refine Decidable.byContradiction fun h2 => ?_
        rw [if_neg h2, srt_none h (bs_tri h1 h2)] at hs
        cases hs
      refine ⟨(List.pairwise_cons.1 h).2, fun m => ?_⟩
      rw [mget_cons]
      subst h2
      by_cases hm : x.1 = m
      · subst hm; rw [if_pos rfl, srt_self h]
      · rw [if_neg hm, if_neg (Ne.symm hm)]
/-- The store's map and the pit's rows. -/
structure Sim (now : List (Bs × Bs)) (l : List PitF) : Prop where
  nd : (now.map (·.1)).Nodup
  so : srt l
  eq : ∀ m, mget now m = mget l m
theorem srt_nodup {l : List PitF} (h : srt l) : (l.map (·.1)).Nodup := by
  unfold srt at h
  rw [List.Nodup, List.pairwise_map]
  exact h.imp (fun h => bs_ne h)
theorem Sim.perm {now : List (Bs × Bs)} {l : List PitF} (h : Sim now l) : (now.map (·.1)).Perm (l.map (·.1)) := by
  refine (List.perm_ext_iff_of_nodup h.nd (srt_nodup h.so)).2 fun k => ?_
  have h1 := mget_none_iff now k
  have h2 := mget_none_iff l k
  rw [h.eq] at h1
  exact Decidable.not_iff_not.1 (h1.symm.trans h2)
theorem Sim.holds {now : List (Bs × Bs)} {l : List PitF} (h : Sim now l) : holds now l := by
  refine ⟨?_, fun q hq => ?_⟩
  · have h1 : (sortP (now.map (·.1))).Perm (l.map (·.1)) := (List.mergeSort_perm _ _).trans h.perm
    refine List.Perm.eq_of_pairwise (le := fun a b : Bs => a ≤ b) (fun a b _ _ h1 h2 => List.le_antisymm h1 h2) ?_ ?_ h1
    · have := List.pairwise_mergeSort (le := fun x y : Bs => decide (x ≤ y)) (fun a b c h1 h2 => by simp at h1 h2 ⊢; exact List.le_trans h1 h2) (fun a b => by simp; exact List.le_total a b) (now.map (·.1))
      exact this.imp (fun h => of_decide_eq_true h)
    · rw [List.pairwise_map]; exact h.so.imp (fun h => List.not_lt.1 (fun h' => List.lt_irrefl _ (List.lt_trans h h')))
  · rw [h.eq, mget_mem (srt_nodup h.so)]; exact hq
theorem Sim.len {now : List (Bs × Bs)} {l : List PitF} (h : Sim now l) : now.length = l.length := h.holds.len
theorem Sim.put {now : List (Bs × Bs)} {l : List PitF} (h : Sim now l) (n d : Bs) : Sim (mset now n d) (putP l n d) :=
  ⟨mset_nodup h.nd n d, (put_spec h.so).1, fun m => by rw [mget_mset, (put_spec h.so).2, h.eq]⟩
theorem Sim.drop {now : List (Bs × Bs)} {l : List PitF} (h : Sim now l) {n : Bs} (hs : (mget l n).isSome = true) : Sim (mdel now n) (dropP l (atP l n)) :=
  ⟨mdel_nodup h.nd n, (drop_spec h.so hs).1, fun m => by rw [mget_mdel h.nd, (drop_spec h.so hs).2, h.eq]⟩
end Go.Proofs.YtlcgeepjekcfgaaGreat
