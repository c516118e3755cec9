/- The plain law, h: what a crash leaves. -/
import Derived.Test.YtlcgeepjekcfgaaGreatLg
namespace Go.Proofs.YtlcgeepjekcfgaaGreat
open Go.RowKit
set_option linter.unusedVariables false
set_option linter.unusedSimpArgs false

theorem crash_run (pages : List Bs) : ∀ (l : List EvP) (acc : List EvP), (∀ e ∈ l, 0 ≤ e.1) → ((acc ++ l).map (·.1)).Nodup → l.foldl crashStep (pages, acc) = (pages, acc ++ l)
  | [], acc, _, _ => by simp
  | e :: r, acc, h, hn => by
    have h1 := h e List.mem_cons_self
    have h2 : e.1 ∉ acc.map (·.1) := fun hm => by
      rw [List.map_append, List.nodup_append] at hn
      exact hn.2.2 _ hm _ (by simp) rfl
    have hn' : (((acc ++ [e]) ++ r).map (·.1)).Nodup := by rw [List.append_assoc]; exact hn
    rw [List.foldl_cons, show crashStep (pages, acc) e = (pages, acc ++ [e]) from by
      unfold crashStep
      rw [if_pos h1]
      show (pages, mset acc e.1 e.2) = _
      rw [mset_new h2]]
    rw [crash_run pages r _ (fun e he => h e (List.mem_cons_of_mem _ he)) hn', List.append_assoc]
    rfl
theorem flush_apply : ∀ (l : List EvP) (out : List Bs), (∀ e ∈ l, 0 ≤ e.1) → flushP out l = applyP out l
  | [], _, _ => rfl
  | e :: r, out, h => by
    rw [flush_cons, applyP_cons, if_pos (h e List.mem_cons_self), flush_apply r _ fun e he => h e (List.mem_cons_of_mem _ he)]
theorem torn_at {since : List (Int × Bs)} {j : Nat} (h : mget since (j : Int) = none) : ∀ (kept : List TornP) (out : List Bs), (kept.foldl (tornStep since) out).getD j [] = out.getD j []
  | [], _ => rfl
  | t :: r, out => by
    rw [List.foldl_cons, torn_at h r]
    unfold tornStep
    cases hm : mget since (t.1 : Int) with
    | none => rfl
    | some d =>
      refine getD_set_ne fun e => ?_
      rw [e, h] at hm; cases hm
theorem torn_none : ∀ (kept : List TornP) (out : List Bs), kept.foldl (tornStep []) out = out
  | [], _ => rfl
  | t :: r, out => by rw [List.foldl_cons]; exact torn_none r out
/-- The first bytes of one page and the rest of another. -/
def mixP (m : Nat) (a b : Bs) : Bs := a.take m ++ b.drop m
theorem mix_mix {a b : Bs} {m t : Nat} (hm : m ≤ a.length) : mixP t a (mixP m a b) = mixP (max m t) a b := by
  unfold mixP
  have hl : (a.take m).length = m := by rw [List.length_take]; omega
  rw [List.drop_append, hl]
  by_cases h : t < m
  · rw [show max m t = m from by omega, show t - m = 0 from by omega, List.drop_zero, ← List.append_assoc]
    congr 1
    have e : a.take t = (a.take m).take t := by rw [List.take_take]; congr 1; omega
    rw [e, List.take_append_drop]
  · rw [show max m t = t from by omega, List.drop_eq_nil_of_le (by omega), List.drop_drop]
    simp
    congr 1
    omega
theorem torn_mix {a : Bs} {k : Nat} (ha : a.length = 64) : ∀ (kept : List TornP) (out : List Bs) (m : Nat), m ≤ 64 → k < out.length → (∀ t ∈ kept, tornOK t) → ∃ m', m' ≤ 64 ∧ kept.foldl (tornStep [((k : Int), a)]) (out.set k (mixP m a (out.getD k []))) = out.set k (mixP m' a (out.getD k []))
  | [], out, m, hm, _, _ => ⟨m, hm, rfl⟩
  | t :: r, out, m, hm, hk, ht => by
    have ht1 := ht t List.mem_cons_self
    have ht2 : ∀ t ∈ r, tornOK t := fun x hx => ht x (List.mem_cons_of_mem _ hx)
    rw [List.foldl_cons]
    by_cases e : t.1 = k
    · have e2 : tornStep [((k : Int), a)] (out.set k (mixP m a (out.getD k []))) t = out.set k (mixP (max m t.2) a (out.getD k [])) := by
        unfold tornStep
        rw [e, show mget [((k : Int), a)] (k : Int) = some a from by simp [mget]]
        simp only
        rw [getD_set_eq hk, List.set_set, ← mix_mix (by omega)]
        rfl
      rw [e2]
      exact torn_mix ha r out _ (by have := ht1.2; omega) hk ht2
    · have e2 : tornStep [((k : Int), a)] (out.set k (mixP m a (out.getD k []))) t = out.set k (mixP m a (out.getD k [])) := by
        unfold tornStep
        rw [show mget [((k : Int), a)] (t.1 : Int) = none from by simp [mget]; omega]
      rw [e2]
      exact torn_mix ha r out m hm hk ht2
theorem set_getD : ∀ (l : List Bs) (k : Nat), k < l.length → l.set k (l.getD k []) = l
  | x :: r, 0, _ => rfl
  | x :: r, k + 1, h => by
    show x :: r.set k (r.getD k []) = x :: r
    rw [set_getD r k (by simpa using h)]
theorem torn_root {a : Bs} {k : Nat} (ha : a.length = 64) {kept : List TornP} {out : List Bs} (hk : k < out.length) (ht : ∀ t ∈ kept, tornOK t) : ∃ m, m ≤ 64 ∧ kept.foldl (tornStep [((k : Int), a)]) out = out.set k (mixP m a (out.getD k [])) := by
  have h := torn_mix ha kept out 0 (by omega) hk ht
  have e : mixP 0 a (out.getD k []) = out.getD k [] := by simp [mixP]
  rw [e, set_getD out k hk] at h
  exact h
theorem crashS_64 : ∀ (l : List EvP) (s : List Bs × List (Int × Bs)), all64 s.1 → sinceOK s.2 → (∀ e ∈ l, evOK e) → all64 (l.foldl crashStep s).1 ∧ sinceOK (l.foldl crashStep s).2
  | [], s, h1, h2, _ => ⟨h1, h2⟩
  | e :: r, s, h1, h2, h => by
    have he := h e List.mem_cons_self
    rw [List.foldl_cons]
    refine crashS_64 r _ ?_ ?_ fun x hx => h x (List.mem_cons_of_mem _ hx)
    · unfold crashStep
      split
      · exact h1
      · exact flush_64 h1 h2
    · unfold crashStep
      split
      · rename_i h0
        exact since_put h2 ⟨h0, he.2.1, he.2.2 h0⟩
      · intro p hp; cases hp
theorem getD_64 {l : List Bs} (h : all64 l) {k : Nat} (hk : k < 256) : (l.getD k []).length = 64 := by
  have hk' : k < l.length := by rw [h.1]; exact hk
  rw [List.getD_eq_getElem?_getD, List.getElem?_eq_getElem hk']
  exact h.2 _ (List.getElem_mem hk')
theorem torn_64 {since : List (Int × Bs)} (hs : sinceOK since) : ∀ (kept : List TornP) (out : List Bs), all64 out → (∀ t ∈ kept, tornOK t) → all64 (kept.foldl (tornStep since) out)
  | [], _, h, _ => h
  | t :: r, out, h, ht => by
    have ht1 := ht t List.mem_cons_self
    rw [List.foldl_cons]
    refine torn_64 hs r _ ?_ fun x hx => ht x (List.mem_cons_of_mem _ hx)
    unfold tornStep
    cases hm : mget since (t.1 : Int) with
    | none => exact h
    | some d =>
      refine h.set ?_
      have hd := (hs _ (mget_in hm)).2.2
      have hd2 : d.length = 64 := hd
      have := getD_64 h ht1.1
      have := ht1.2
      rw [List.length_append, List.length_take, List.length_drop]; omega
theorem crash_64 {pages : List Bs} {l : List EvP} {kept : List TornP} (h : all64 pages) (hl : ∀ e ∈ l, evOK e) (ht : ∀ t ∈ kept, tornOK t) : all64 (crashP pages l kept) := by
  have h1 := crashS_64 l (pages, []) h (fun p hp => by cases hp) hl
  exact torn_64 h1.2 kept _ h1.1 ht
/-- The four ways of a crash. -/
theorem crash_cases {pages : List Bs} {ch : List EvP} {root : Bs} {k n : Nat} {kept : List TornP} (h0 : ∀ e ∈ ch, 0 ≤ e.1) (hn : (ch.map (·.1)).Nodup) (hr : root.length = 64) (hk : k < pages.length) (ht : ∀ t ∈ kept, tornOK t) (hle : n ≤ ch.length + 3) :
    (n < ch.length + 2 ∧ ∀ j : Nat, (∀ e ∈ ch, e.1 ≠ (j : Int)) → (crashP pages ((((ch ++ [(-1, [])]) ++ [((k : Int), root)]) ++ [(-1, [])]).take n) kept).getD j [] = pages.getD j []) ∨
    (n = ch.length + 2 ∧ ∃ m, m ≤ 64 ∧ crashP pages ((((ch ++ [(-1, [])]) ++ [((k : Int), root)]) ++ [(-1, [])]).take n) kept = (applyP pages ch).set k (mixP m root ((applyP pages ch).getD k []))) ∨
    (n = ch.length + 3 ∧ crashP pages ((((ch ++ [(-1, [])]) ++ [((k : Int), root)]) ++ [(-1, [])]).take n) kept = (applyP pages ch).set k root) := by
  have hrun : ch.foldl crashStep (pages, []) = (pages, ch) := by
    have := crash_run pages ch [] h0 (by simpa using hn)
    simpa using this
  have hs1 : (ch ++ [((-1 : Int), ([] : Bs))]).foldl crashStep (pages, []) = (applyP pages ch, []) := by
    rw [List.foldl_append, hrun, List.foldl_cons, List.foldl_nil]
    unfold crashStep
    rw [if_neg (by show ¬ (0 : Int) ≤ -1; omega), flush_apply ch pages h0]
  have hs2 : ((ch ++ [((-1 : Int), ([] : Bs))]) ++ [((k : Int), root)]).foldl crashStep (pages, []) = (applyP pages ch, [((k : Int), root)]) := by
    rw [List.foldl_append, hs1, List.foldl_cons, List.foldl_nil]
    unfold crashStep
    rw [if_pos (by show (0 : Int) ≤ (k : Int); omega)]
    rfl
  have hs3 : (((ch ++ [((-1 : Int), ([] : Bs))]) ++ [((k : Int), root)]) ++ [((-1 : Int), ([] : Bs))]).foldl crashStep (pages, []) = ((applyP pages ch).set k root, []) := by
    rw [List.foldl_append, hs2, List.foldl_cons, List.foldl_nil]
    unfold crashStep
    rw [if_neg (by show ¬ (0 : Int) ≤ -1; omega)]
    rfl
  by_cases h1 : n ≤ ch.length
  · left
    refine ⟨by omega, fun j hj => ?_⟩
    have e : ((((ch ++ [((-1 : Int), ([] : Bs))]) ++ [((k : Int), root)]) ++ [((-1 : Int), ([] : Bs))]).take n) = ch.take n := by
      rw [List.append_assoc, List.append_assoc, List.take_append_of_le_length h1]
    have hsub : (ch.take n).Sublist ch := List.take_sublist _ _
    have hrun2 : crashS pages (ch.take n) = (pages, ch.take n) := by
      have := crash_run pages (ch.take n) [] (fun e he => h0 e (hsub.mem he)) (by simpa using (hsub.map (·.1)).nodup hn)
      simpa [crashS] using this
    unfold crashP
    rw [e, hrun2, torn_at]
    rw [mget_none_iff]
    intro hm
    obtain ⟨e, he, hej⟩ := List.mem_map.1 hm
    exact hj e (hsub.mem he) hej
  · by_cases h2 : n = ch.length + 1
    · left
      refine ⟨by omega, fun j hj => ?_⟩
      have e : ((((ch ++ [((-1 : Int), ([] : Bs))]) ++ [((k : Int), root)]) ++ [((-1 : Int), ([] : Bs))]).take n) = ch ++ [((-1 : Int), ([] : Bs))] := by
        rw [List.append_assoc, List.take_left' (by simp [h2])]
      unfold crashP crashS
      rw [e, hs1, torn_none]
      exact applyP_at ch pages hj
    · by_cases h3 : n = ch.length + 2
      · right; left
        refine ⟨h3, ?_⟩
        have e : ((((ch ++ [((-1 : Int), ([] : Bs))]) ++ [((k : Int), root)]) ++ [((-1 : Int), ([] : Bs))]).take n) = (ch ++ [((-1 : Int), ([] : Bs))]) ++ [((k : Int), root)] := by
          rw [List.take_left' (by simp [h3])]
        unfold crashP crashS
        rw [e, hs2]
        exact torn_root hr (by rw [applyP_len]; exact hk) ht
      · right; right
        refine ⟨by omega, ?_⟩
        have e : ((((ch ++ [((-1 : Int), ([] : Bs))]) ++ [((k : Int), root)]) ++ [((-1 : Int), ([] : Bs))]).take n) = (((ch ++ [((-1 : Int), ([] : Bs))]) ++ [((k : Int), root)]) ++ [((-1 : Int), ([] : Bs))]) := by
          rw [List.take_of_length_le (by simp; omega)]
        unfold crashP crashS
        rw [e, hs3, torn_none]
theorem apply_ev {pages : List Bs} {ch : List EvP} {root : Bs} {k : Nat} : applyP pages (((ch ++ [(-1, [])]) ++ [((k : Int), root)]) ++ [(-1, [])]) = (applyP pages ch).set k root := by
  rw [applyP_snoc, if_neg (by show ¬ (0 : Int) ≤ -1; omega), applyP_snoc, if_pos (by show (0 : Int) ≤ (k : Int); omega), applyP_snoc, if_neg (by show ¬ (0 : Int) ≤ -1; omega)]
  rfl
end Go.Proofs.YtlcgeepjekcfgaaGreat
