/- The pit: find, put, drop. -/
import Derived.Test.YtlcgeepjekcfgaaGreatZf
namespace Go.Proofs.YtlcgeepjekcfgaaGreat
open Go.RowKit
set_option linter.unusedVariables false
set_option linter.unusedSimpArgs false


abbrev PitF := Bs × Bs
def pfV (p : PitF) : List Value := [str p.1, str p.2]
theorem pfV_2 (p : PitF) : (pfV p).length = 2 := rfl
theorem pf_one (l : List PitF) : ∀ u ∈ l.flatMap pfV, u.oneCell' = true := by
  intro u hu
  simp only [List.mem_flatMap, pfV] at hu
  obtain ⟨e, _, he⟩ := hu
  simp at he
  rcases he with rfl | rfl <;> rfl
structure Pit where
  nw : List PitF
  old : List PitF
  gen : Nat
  nv : Value
  ov : Value
structure PitR (b : Nat) (t : Pit) (w : World) : Prop where
  hb : w.heap[b]? = some (.cells #[t.nv, t.ov, natv t.gen] 29 (0, 0))
  hn : Sl w 68 2 t.nv t.nw.length (t.nw.flatMap pfV)
  ho : Sl w 68 2 t.ov t.old.length (t.old.flatMap pfV)
theorem PitR.kt {b : Nat} {t : Pit} {w w' : World} {S : Nat → Prop} (h : PitR b t w) (hk : Kt S w w') (h1 : ¬ S b) (hS : ∀ i, S i → ∃ o, w.heap[i]? = some o ∧ ∀ c f, o ≠ .cells c 68 f) : PitR b t w' :=
  ⟨hk.at h.hb h1, h.hn.kt hk (fun k hk' h0 hs => by obtain ⟨o, ho, hne⟩ := hS k hs; exact h.hn.ne ho hne hk' h0), h.ho.kt hk (fun k hk' h0 hs => by obtain ⟨o, ho, hne⟩ := hS k hs; exact h.ho.ne ho hne hk' h0)⟩
theorem PitR.kt0 {b : Nat} {t : Pit} {w w' : World} (h : PitR b t w) (hk : Kt No w w') : PitR b t w' := h.kt hk id (fun _ h => h.elim)
/-- A row of the pit, if it is there. -/
theorem pit_may {w : World} {p : Option Addr} {cap : Nat} {l : List PitF} (h : Sl w 68 2 (.slice p l.length cap) l.length (l.flatMap pfV)) (j : Nat) : ∃ g off cur fr, ∃ a : PitF, j < l.length → p = some ⟨g, off, none⟩ ∧ w.heap[g]? = some (.cells cur 68 fr) ∧ cur[off + j * 2]? = some (str a.1) ∧ cur[off + j * 2 + 1]? = some (str a.2) ∧ (cur.toList.drop (off + j * 2)).take 2 = pfV a ∧ l[j]? = some a := by
  by_cases hj : j < l.length
  · obtain ⟨g, off, cap', cur, fr, hv, hg, ht⟩ := row_at pfV_2 h (List.getElem?_eq_getElem hj)
    cases hv
    refine ⟨g, off, cur, fr, l[j], fun _ => ⟨rfl, hg, ?_, ?_, ht, List.getElem?_eq_getElem hj⟩⟩
    · have h0 : ((cur.toList.drop (off + j * 2)).take 2)[0]? = some (str l[j].1) := by rw [ht]; rfl
      simpa [List.getElem?_take, List.getElem?_drop] using h0
    · have h0 : ((cur.toList.drop (off + j * 2)).take 2)[1]? = some (str l[j].2) := by rw [ht]; rfl
      simpa [List.getElem?_take, List.getElem?_drop] using h0
  · exact ⟨0, 0, #[], (0, 0), ([], []), fun h => absurd h hj⟩
theorem flat2_take' {α : Type} {enc : α → List Value} (h2 : ∀ a, (enc a).length = 2) : ∀ (l : List α) (n : Nat), (l.flatMap enc).take (n * 2) = (l.take n).flatMap enc
  | l, 0 => by simp
  | [], n + 1 => by simp
  | x :: r, n + 1 => by
    rw [List.flatMap_cons, List.take_succ_cons, List.flatMap_cons, ← flat2_take' h2 r n, List.take_append, h2, List.take_of_length_le (by rw [h2]; omega), show (n + 1) * 2 - 2 = n * 2 by omega]
theorem flat2_drop' {α : Type} {enc : α → List Value} (h2 : ∀ a, (enc a).length = 2) : ∀ (l : List α) (n : Nat), (l.flatMap enc).drop (n * 2) = (l.drop n).flatMap enc
  | l, 0 => by simp
  | [], n + 1 => by simp
  | x :: r, n + 1 => by
    rw [List.flatMap_cons, List.drop_succ_cons, ← flat2_drop' h2 r n, List.drop_append, h2, List.drop_of_length_le (by rw [h2]; omega), show (n + 1) * 2 - 2 = n * 2 by omega]
    rfl
theorem pit_cut0 {w : World} {p : Option Addr} {cap : Nat} {l : List PitF} (h : Sl w 68 2 (.slice p l.length cap) l.length (l.flatMap pfV)) {a : Nat} (ha : a ≤ l.length) : Sl w 68 2 (sliced p 0 a cap 2) (l.take a).length ((l.take a).flatMap pfV) := by
  have := h.cut 0 a (Nat.zero_le _) ha
  rw [Nat.zero_mul, List.drop_zero, Nat.sub_zero, flat2_take' pfV_2] at this
  rw [List.length_take, Nat.min_eq_left ha]; exact this
theorem pit_cut1 {w : World} {p : Option Addr} {cap : Nat} {l : List PitF} (h : Sl w 68 2 (.slice p l.length cap) l.length (l.flatMap pfV)) {a : Nat} (ha : a ≤ l.length) : Sl w 68 2 (sliced p a l.length cap 2) (l.drop a).length ((l.drop a).flatMap pfV) := by
  have := h.cut a l.length ha (Nat.le_refl _)
  rw [flat2_drop' pfV_2, List.take_of_length_le (by rw [flat2_len pfV_2, List.length_drop]; exact Nat.le_refl _)] at this
  rw [List.length_drop]; exact this
def atP (l : List PitF) (n : Bs) : Nat := (l.takeWhile fun p => Op.bytesLess p.1 n).length
def hasP (l : List PitF) (n : Bs) : Bool := match l[atP l n]? with
  | some p => decide (p.1 = n)
  | none => false
theorem atP_le (l : List PitF) (n : Bs) : atP l n ≤ l.length := (List.takeWhile_prefix _).length_le
theorem atP_eq {n : Bs} : ∀ {l : List PitF} {j : Nat}, j ≤ l.length → (∀ i p, i < j → l[i]? = some p → Op.bytesLess p.1 n = true) → (∀ p, l[j]? = some p → Op.bytesLess p.1 n = false) → atP l n = j
  | [], j, h1, _, _ => by simp at h1; subst h1; rfl
  | x :: r, 0, _, _, h3 => by
    have := h3 x rfl
    simp [atP, List.takeWhile_cons, this]
  | x :: r, j + 1, h1, h2, h3 => by
    have hx := h2 0 x (by omega) rfl
    have := atP_eq (n := n) (l := r) (j := j) (by simpa using h1) (fun i p hi hp => h2 (i + 1) p (by omega) (by simpa using hp)) (fun p hp => h3 p (by simpa using hp))
    unfold atP at this ⊢
    simp [List.takeWhile_cons, hx, this]
theorem has_lt {l : List PitF} {n : Bs} (h : hasP l n = true) : atP l n < l.length := by
  unfold hasP at h
  cases hx : l[atP l n]? with
  | none => rw [hx] at h; cases h
  | some p => exact (List.getElem?_eq_some_iff.1 hx).1
theorem gl {a b : Nat} (h : decide ((a : Int) < (b : Int)) = true) : a < b := by have := of_decide_eq_true h; omega
def putP (l : List PitF) (n d : Bs) : List PitF := l.take (atP l n) ++ [(n, d)] ++ l.drop (if hasP l n = true then atP l n + 1 else atP l n)
def dropP (l : List PitF) (k : Nat) : List PitF := l.take k ++ l.drop (k + 1)


theorem Kt.slz {w w' : World} {e sz n : Nat} {v : Value} {xs : List Value} (hk : Kt No w w') (h : Sl w e sz v n xs) : Sl w' e sz v n xs := h.kt0 hk
theorem own_three {w : World} {v : Value} {l1 l2 : List PitF} {x : PitF} (h : w.ownsRow 0 68 2 v (l1.length + 1 + l2.length) ((l1.flatMap pfV ++ pfV x) ++ l2.flatMap pfV)) : w.ownsRow 0 68 2 v (l1 ++ [x] ++ l2).length ((l1 ++ [x] ++ l2).flatMap pfV) := by
  have e1 : (l1 ++ [x] ++ l2).length = l1.length + 1 + l2.length := by simp only [List.length_append, List.length_cons, List.length_nil]
  have e2 : (l1 ++ [x] ++ l2).flatMap pfV = (l1.flatMap pfV ++ pfV x) ++ l2.flatMap pfV := by simp only [List.flatMap_append, List.flatMap_cons, List.flatMap_nil, List.append_nil]
  rw [e1, e2]; exact h
theorem own_two {w : World} {v : Value} {l1 l2 : List PitF} (h : w.ownsRow 0 68 2 v (l1.length + l2.length) (l1.flatMap pfV ++ l2.flatMap pfV)) : w.ownsRow 0 68 2 v (l1 ++ l2).length ((l1 ++ l2).flatMap pfV) := by
  rw [List.length_append, List.flatMap_append]; exact h

theorem find_calls (b : Nat) (t : Pit) (n : Bs) (w : World) (h : PitR b t w) (hl : t.nw.length ≤ 1000000) : Calls P 21 [.pointer (some ⟨b, 0, none⟩), str n].toArray w (Ret fun v w' => v = .tuple #[natv (atP t.nw n), .bool (hasP t.nw n)] ∧ Kt No w w') := by
  obtain ⟨nw, old, gen, nv, ov⟩ := t
  obtain ⟨hb, hn, ho⟩ := h
  dsimp only at hb hn ho hl ⊢
  obtain ⟨p, cap, rfl, hc1, hc2⟩ := hn.len
  have hml := maxLen_le
  refine enterW 48 Tryz.func21 rfl rfl rfl ?_
  refine W.seq ?_
  -- region 0 (new1119.go:1446)
  refine W.region ?_
  refine Run.ev (Ev.assign rfl) rfl rfl ?_   -- t4
  refine Run.ev (Ev.assign rfl) rfl rfl ?_   -- t5
  refine Run.nil ?_
  refine At.then ?_
  refine W.seq ?_
  -- region 1 (new1119.go:1447)
  refine W.region ?_
  refine Run.ev (Ev.assign rfl) rfl rfl ?_   -- t6
  refine Run.nil ?_
  refine At.then ?_
  refine W.seq ?_
  refine W.block ?_
  refine W.loop (fun (j : Nat) => [(0, .pointer (some ⟨b, 0, none⟩)), (1, str n), (6, natv j)])
    (fun j w' => j ≤ nw.length ∧ w = w' ∧ ∀ i f, i < j → nw[i]? = some f → Op.bytesLess f.1 n = true) (fun j => nw.length - j) 0 ⟨Nat.zero_le _, rfl, fun _ _ h => absurd h (Nat.not_lt_zero _)⟩ (Env.sub_cons rfl (Env.sub_cons rfl (Env.sub_cons rfl (Env.sub_nil _)))) ?_
  rintro j _ ⟨hj, rfl, hall⟩
  obtain ⟨g, off, cur, fr, f, hmay⟩ := pit_may hn j
  refine W.seq ?_
  refine W.seq ?_
  -- region 2 (new1119.go:1448)
  refine W.region ?_
  refine Run.ev (Ev.move rfl) rfl rfl ?_   -- t7
  refine Run.ev (Ev.move rfl) rfl rfl ?_   -- t8
  refine Run.ev (Ev.nilCheck rfl) rfl rfl ?_   -- t9
  refine Run.ev (Ev.fieldAddr fo_29_0 rfl rfl) rfl rfl ?_   -- t10
  refine Run.ev (Ev.load sc_27 rfl (by first | exact cell_of (hb) rfl)) rfl rfl ?_   -- t11
  refine Run.ev (Ev.len rfl Tryz.underlying27) rfl rfl ?_   -- t12
  refine Run.ev (Ev.lss rfl rfl rfl) rfl rfl ?_   -- t13
  refine Run.ev (Ev.move rfl) rfl rfl ?_   -- t14
  refine Run.evg rfl rfl (fun hg => (Ev.move rfl)) rfl ?_   -- t15
  refine Run.evg rfl rfl (fun hg => (Ev.nilCheck (ifp hg))) rfl ?_   -- t16
  refine Run.evg rfl rfl (fun hg => (Ev.fieldAddr fo_29_0 (ifp hg) rfl)) rfl ?_   -- t17
  refine Run.evg rfl rfl (fun hg => (Ev.load (v := .slice p nw.length cap) sc_27 (ifp hg) (cell_of hb rfl))) rfl ?_   -- t18
  refine Run.evg rfl rfl (fun hg => (Ev.move rfl)) rfl ?_   -- t19
  refine Run.evg rfl rfl (fun hg => (Ev.indexAddr (b := g) (off := off) Tryz.underlying27 es_68 ((ifp hg).trans (by rw [(hmay (gl hg)).1])) (ifp hg) (by have := gl hg; omega) rfl)) rfl ?_   -- t20
  refine Run.evg rfl rfl (fun hg => (Ev.fieldAddr fo_68_0 (ifp hg) rfl)) rfl ?_   -- t21
  refine Run.evg rfl rfl (fun hg => (Ev.load (v := str f.1) sc_9 (ifp hg) (cell_of (hmay (gl hg)).2.1 (hmay (gl hg)).2.2.1))) rfl ?_   -- t22
  refine Run.evg rfl rfl (fun hg => (Ev.move rfl)) rfl ?_   -- t23
  refine Run.evg rfl rfl (fun hg => (Ev.slss (p := f.1) (q := n) (ifp hg) (ifp hg) rfl)) rfl ?_   -- t24
  refine Run.ev (Ev.pick_and rfl rfl rfl) rfl rfl ?_   -- t25
  refine Run.nil ?_
  refine At.then ?_
  refine W.cond rfl (fun hc25 => ?_) (fun hc25 => ?_)
  · rw [Bool.and_eq_true] at hc25
    obtain ⟨hj1, hj2⟩ := hc25
    replace hj1 := gl hj1
    refine W.skip ?_
    refine At.then ?_
    refine W.block ?_
    -- region 3 (new1119.go:1449)
    refine W.region ?_
    refine Run.ev (Ev.move rfl) rfl rfl ?_   -- t26
    refine Run.ev (Ev.add rfl rfl (by omega)) rfl rfl ?_   -- t27
    refine Run.ev (Ev.assign rfl) rfl rfl ?_   -- t6
    refine Run.nil ?_
    refine At.block ?_
    exact At.round (j + 1) (Env.sub_cons rfl (Env.sub_cons rfl (Env.sub_cons rfl (Env.sub_nil _)))) ⟨by omega, rfl, fun i q hi hq => by
      by_cases h : i = j
      · subst h; have e := (hmay hj1).2.2.2.2.2; rw [hq] at e; cases e; exact hj2
      · exact hall i q (by omega) hq⟩ (by omega)
  · have hat : atP nw n = j := atP_eq hj hall (fun q hq => by
      have hjl := (List.getElem?_eq_some_iff.1 hq).1
      have e := (hmay hjl).2.2.2.2.2
      rw [hq] at e; cases e
      rw [decide_eq_true (by omega : (j : Int) < (nw.length : Int)), Bool.true_and] at hc25
      exact hc25)
    refine W.exit ?_
    refine At.then_exit ?_
    refine At.then_exit ?_
    refine At.block_here ?_
    refine At.then ?_
    refine W.seq ?_
    -- region 4 DRAWS (new1119.go:1451)
    refine W.draw (fun w' => Kt No w w') [(0, true), (1, true), (2, true), (3, true), (4, true), (5, true), (6, true), (7, true), (8, true), (9, true), (10, true), (11, true), (12, true), (13, true), (14, true), (15, true), (16, true), (17, true), (18, true), (19, true), (20, true), (21, true)] (by repeat (first | exact PQ.body | with_reducible apply PQ.then | with_reducible apply PQ.block)) (by kernel_rfl) (by kernel_rfl) (by kernel_rfl) rfl ?_
    have hS0 := (Kt.refl No w).drew
    refine RunD.ev rfl (fun w' hS => (Ev.move rfl)) hS0 rfl rfl ?_   -- t28
    refine RunD.ev rfl (fun w' hS => (Ev.move rfl)) hS0 rfl rfl ?_   -- t29
    refine RunD.ev rfl (fun w' hS => (Ev.move rfl)) hS0 rfl rfl ?_   -- t30
    refine RunD.ev rfl (fun w' hS => (Ev.nilCheck rfl)) hS0 rfl rfl ?_   -- t31
    refine RunD.ev rfl (fun w' hS => (Ev.fieldAddr fo_29_0 rfl rfl)) hS0 rfl rfl ?_   -- t32
    refine RunD.ev rfl (fun w' hS => (Ev.load sc_27 rfl (by first | exact cell_of (hS.at0 hb) rfl))) hS0 rfl rfl ?_   -- t33
    refine RunD.ev rfl (fun w' hS => (Ev.len rfl Tryz.underlying27)) hS0 rfl rfl ?_   -- t34
    refine RunD.ev rfl (fun w' hS => (Ev.lss rfl rfl rfl)) hS0 rfl rfl ?_   -- t35
    refine RunD.ev rfl (fun w' hS => (Ev.move rfl)) hS0 rfl rfl ?_   -- t36
    refine RunD.evg rfl rfl rfl (fun hg w' hS => (Ev.move rfl)) hS0 rfl ?_   -- t37
    refine RunD.evg rfl rfl rfl (fun hg w' hS => (Ev.nilCheck (ifp hg))) hS0 rfl ?_   -- t38
    refine RunD.evg rfl rfl rfl (fun hg w' hS => (Ev.fieldAddr fo_29_0 (ifp hg) rfl)) hS0 rfl ?_   -- t39
    refine RunD.evg rfl rfl rfl (fun hg w' hS => (Ev.load (v := .slice p nw.length cap) sc_27 (ifp hg) (cell_of (hS.at0 hb) rfl))) hS0 rfl ?_   -- t40
    refine RunD.evg rfl rfl rfl (fun hg w' hS => (Ev.move rfl)) hS0 rfl ?_   -- t41
    refine RunD.evg rfl rfl rfl (fun hg w' hS => (Ev.indexAddr (b := g) (off := off) Tryz.underlying27 es_68 ((ifp hg).trans (by rw [(hmay (gl hg)).1])) (ifp hg) (by have := gl hg; omega) rfl)) hS0 rfl ?_   -- t42
    refine RunD.evg rfl rfl rfl (fun hg w' hS => (Ev.fieldAddr fo_68_0 (ifp hg) rfl)) hS0 rfl ?_   -- t43
    refine RunD.evg rfl rfl rfl (fun hg w' hS => (Ev.load (v := str f.1) sc_9 (ifp hg) (cell_of (hS.at0 (hmay (gl hg)).2.1) (hmay (gl hg)).2.2.1))) hS0 rfl ?_   -- t44
    refine RunD.evg rfl rfl rfl (fun hg w' hS => (Ev.move rfl)) hS0 rfl ?_   -- t45
    refine RunD.evg rfl rfl rfl (fun hg w' hS => (Ev.seql (p := f.1) (q := n) (ifp hg) (ifp hg) rfl)) hS0 rfl ?_   -- t46
    refine RunD.ev rfl (fun w' hS => (Ev.pick_and rfl rfl rfl)) hS0 rfl rfl ?_   -- t47
    refine RunD.ev rfl (fun w' hS => (Ev.assign rfl)) hS0 rfl rfl ?_   -- t4
    refine RunD.ev rfl (fun w' hS => (Ev.assign rfl)) hS0 rfl rfl ?_   -- t5
    refine RunD.nil ?_
    refine At.then ?_
    refine W.ret ?_
    have hhas : hasP nw n = (decide ((j : Int) < (nw.length : Int)) && decide (f.1 = n)) := by
      unfold hasP
      rw [hat]
      by_cases hjl : j < nw.length
      · rw [(hmay hjl).2.2.2.2.2, decide_eq_true (by omega : (j : Int) < (nw.length : Int)), Bool.true_and]
      · rw [List.getElem?_eq_none (by omega), decide_eq_false (by omega : ¬ (j : Int) < (nw.length : Int)), Bool.false_and]
    exact At.ret2 rfl rfl rfl rfl ⟨by rw [hat, hhas], hS0⟩

theorem put_calls (b : Nat) (t : Pit) (n d : Bs) (w : World) (h : PitR b t w) (hl : t.nw.length ≤ 1000) : Calls P 24 [.pointer (some ⟨b, 0, none⟩), str n, str d].toArray w (Ret fun v w' => v = .tuple #[] ∧ ∃ nv', PitR b { t with nw := putP t.nw n d, nv := nv' } w' ∧ Kt (fun i => i = b) w w') := by
  obtain ⟨nw, old, gen, nv, ov⟩ := t
  obtain ⟨hb, hn, ho⟩ := h
  dsimp only at hb hn ho hl ⊢
  obtain ⟨p, cap, rfl, hc1, hc2⟩ := hn.len
  have hml := maxLen_le
  refine enterW 43 Tryz.func24 rfl rfl rfl ?_
  refine W.seq ?_
  -- region 0 (new1119.go:1456)
  refine W.region ?_
  refine Run.ev (Ev.move rfl) rfl rfl ?_   -- t10
  refine Run.ev (Ev.move rfl) rfl rfl ?_   -- t11
  refine Run.step rfl (Stp.callr en_21 rfl (find_calls b ⟨nw, old, gen, .slice p nw.length cap, ov⟩ n w ⟨hb, hn, ho⟩ (by show nw.length ≤ 1000000; omega)) rfl ?_)   -- t12
  rintro v12 w12 ⟨rfl, k12⟩
  have hb12 := k12.at0 hb
  have hn12 := hn.kt0 k12
  have ho12 := ho.kt0 k12
  have hat := atP_le nw n
  have hlt := has_lt (l := nw) (n := n)
  have hpp : putP nw n d = nw.take (atP nw n) ++ [(n, d)] ++ nw.drop (if hasP nw n = true then atP nw n + 1 else atP nw n) := rfl
  clear hb hn ho
  have hb := hb12
  dsimp only
  generalize ha : atP nw n = a at hat hlt hpp ⊢
  generalize hhs : hasP nw n = hs at hlt hpp ⊢
  have lt22 := List.length_take (i := a) (l := nw)
  refine Run.ev (Ev.move rfl) rfl rfl ?_   -- t9
  refine Run.ev (Ev.extract rfl rfl) rfl rfl ?_   -- t13
  refine Run.ev (Ev.extract rfl rfl) rfl rfl ?_   -- t14
  refine Run.ev (Ev.assign rfl) rfl rfl ?_   -- t6
  refine Run.ev (Ev.assign rfl) rfl rfl ?_   -- t7
  refine Run.nil ?_
  refine At.then ?_
  refine W.seq ?_
  -- region 1 (new1119.go:1457)
  refine W.region ?_
  refine Run.ev (Ev.assign rfl) rfl rfl ?_   -- t8
  refine Run.nil ?_
  refine At.then ?_
  refine W.seq ?_
  -- region 2 (new1119.go:1458)
  refine W.region ?_
  refine Run.ev (Ev.move rfl) rfl rfl ?_   -- t15
  refine Run.ev (Ev.move rfl) rfl rfl ?_   -- t16
  refine Run.ev (Ev.nilCheck rfl) rfl rfl ?_   -- t17
  refine Run.ev (Ev.fieldAddr fo_29_0 rfl rfl) rfl rfl ?_   -- t18
  refine Run.ev (Ev.load sc_27 rfl (by first | exact cell_of (hb) rfl)) rfl rfl ?_   -- t19
  refine Run.ev (Ev.move rfl) rfl rfl ?_   -- t20
  refine Run.ev (Ev.cut (l := 0) (m := a) Tryz.underlying27 es_68 rfl (.inl ⟨rfl, rfl⟩) (.inr ⟨_, rfl, rfl⟩) (by omega) (by omega) (by omega)) rfl rfl ?_   -- t21
  refine Run.step rfl (Stp.append (n := 0) (m := (nw.take a).length) (xs := []) (ys := (nw.take a).flatMap pfV) Tryz.underlying27 ei_68 rfl (by decide) rfl rfl ⟨by simp, .inl ⟨rfl, rfl⟩⟩ (pit_cut0 hn12 (by omega)) (pf_one _) (by omega) (by omega) rfl ?_)   -- t22
  intro v22 w22 o22 k22 n22
  rw [Nat.zero_add, List.nil_append] at o22
  have kn22 : Kt No w12 w22 := k22.mono (fun i _ h => by cases h)
  replace n22 : ∀ k, v22.ownBlock = some k → w12.heap.size ≤ k := fun k hk => (n22 k hk).elim (fun h => by cases h) id
  refine Run.ev (Ev.assign rfl) rfl rfl ?_   -- t8
  refine Run.nil ?_
  refine At.then ?_
  refine W.seq ?_
  -- region 3 (new1119.go:1459)
  refine W.region ?_
  refine Run.ev (Ev.move rfl) rfl rfl ?_   -- t23
  refine Run.ev (Ev.move rfl) rfl rfl ?_   -- t24
  refine Run.ev (Ev.move rfl) rfl rfl ?_   -- t25
  refine Run.ev (Ev.build (vs := [(0, str n), (1, str d)]) (v := .agg #[str n, str d]) rfl rfl (by kernel_rfl)) rfl rfl ?_   -- t26
  refine Run.step rfl (Stp.bslice1 Tryz.underlying27 ei_68 rfl (by decide) (by decide) rfl rfl rfl ?_)   -- t27
  intro a27 w27 e27 k27 b27 z27
  replace o22 := k27.own0 o22
  refine Run.step rfl (Stp.append (n := (nw.take a).length) (m := 1) (ys := pfV (n, d)) Tryz.underlying27 ei_68 rfl (by decide) rfl rfl o22 b27 (by intro u hu; simp [pfV] at hu; rcases hu with rfl | rfl <;> rfl) (by omega) (by omega) rfl ?_)   -- t28
  intro v28 w28 o28 k28 n28
  have kn28 : Kt No w12 w28 := (kn22.no k27).new k28 n22
  replace n28 : ∀ k, v28.ownBlock = some k → w12.heap.size ≤ k := fun k hk => (n28 k hk).elim (n22 k) (fun h => by have := (kn22.no k27).size; omega)
  have hb := kn28.at0 hb12
  refine Run.ev (Ev.assign rfl) rfl rfl ?_   -- t8
  refine Run.nil ?_
  refine At.then ?_
  refine W.seq ?_
  refine W.seq ?_
  -- region 4 (new1119.go:1460)
  refine W.region ?_
  refine Run.ev (Ev.move rfl) rfl rfl ?_   -- t29
  refine Run.nil ?_
  refine At.then ?_
  refine W.cond rfl (fun hc29 => ?_) (fun hc29 => ?_)
  · have hlt1 := hlt hc29
    have hee : putP nw n d = nw.take a ++ [(n, d)] ++ nw.drop (a + 1) := by rw [hpp, if_pos hc29]
    -- region 5 (new1119.go:1461)
    refine W.region ?_
    refine Run.ev (Ev.move rfl) rfl rfl ?_   -- t30
    refine Run.ev (Ev.addN (m := a) (n := 1) rfl rfl (by omega)) rfl rfl ?_   -- t31
    refine Run.ev (Ev.assign rfl) rfl rfl ?_   -- t6
    refine Run.nil ?_
    refine At.then ?_
    -- region 6 (new1119.go:1463)
    refine W.region ?_
    refine Run.ev (Ev.move rfl) rfl rfl ?_   -- t32
    refine Run.ev (Ev.move rfl) rfl rfl ?_   -- t33
    refine Run.ev (Ev.move rfl) rfl rfl ?_   -- t34
    refine Run.ev (Ev.nilCheck rfl) rfl rfl ?_   -- t35
    refine Run.ev (Ev.fieldAddr fo_29_0 rfl rfl) rfl rfl ?_   -- t36
    refine Run.ev (Ev.load sc_27 rfl (by first | exact cell_of (hb) rfl)) rfl rfl ?_   -- t37
    refine Run.ev (Ev.move rfl) rfl rfl ?_   -- t38
    refine Run.ev (Ev.cut (m := nw.length) Tryz.underlying27 es_68 rfl (.inr ⟨_, rfl, rfl⟩) (.inl ⟨rfl, rfl⟩) (by omega) (by omega) (by omega)) rfl rfl ?_   -- t39
    refine Run.step rfl (Stp.append (n := (nw.take a).length + 1) Tryz.underlying27 ei_68 rfl (by decide) rfl rfl o28 (pit_cut1 (kn28.slz hn12) (by omega)) (pf_one _) (by rw [List.length_drop]; omega) (by rw [List.length_drop]; omega) rfl ?_)   -- t40
    intro v40 w40 o40 k40 n40
    have kn40 : Kt No w12 w40 := kn28.new k40 n28
    have hb := kn40.at0 hb12
    have ho := ho12.kt0 kn40
    refine Run.ev (Ev.nilCheck rfl) rfl rfl ?_   -- t41
    refine Run.ev (Ev.fieldAddr fo_29_0 rfl rfl) rfl rfl ?_   -- t42
    refine Run.step rfl (Stp.store sc_27 sz_27 rfl rfl (own_one o40) hb (by simp) ?_)   -- tNone
    intro wS kS bS zS
    refine Run.nil ?_
    refine At.end0 rfl rfl ⟨rfl, v40, ⟨bS, ?_, ?_⟩, ?_⟩
    · show Sl wS 68 2 v40 (putP nw n d).length ((putP nw n d).flatMap pfV)
      rw [hee]
      have o := own_three o40
      exact (Sl.of_own o).kt kS (fun k hk h0 => by rintro rfl; exact (Sl.of_own o).ne hb (by intro c f e; cases e) hk h0)
    · exact ho.kt kS (fun k hk h0 => by rintro rfl; exact ho.ne hb (by intro c f e; cases e) hk h0)
    · exact ((k12.no kn40).mono (fun _ _ h => h.elim)).trans kS (fun i _ h => h)
  · have hee : putP nw n d = nw.take a ++ [(n, d)] ++ nw.drop a := by rw [hpp, if_neg (by rw [hc29]; decide)]
    refine W.skip ?_
    refine At.then ?_
    -- region 6 (new1119.go:1463)
    refine W.region ?_
    refine Run.ev (Ev.move rfl) rfl rfl ?_   -- t32
    refine Run.ev (Ev.move rfl) rfl rfl ?_   -- t33
    refine Run.ev (Ev.move rfl) rfl rfl ?_   -- t34
    refine Run.ev (Ev.nilCheck rfl) rfl rfl ?_   -- t35
    refine Run.ev (Ev.fieldAddr fo_29_0 rfl rfl) rfl rfl ?_   -- t36
    refine Run.ev (Ev.load sc_27 rfl (by first | exact cell_of (hb) rfl)) rfl rfl ?_   -- t37
    refine Run.ev (Ev.move rfl) rfl rfl ?_   -- t38
    refine Run.ev (Ev.cut (m := nw.length) Tryz.underlying27 es_68 rfl (.inr ⟨_, rfl, rfl⟩) (.inl ⟨rfl, rfl⟩) (by omega) (by omega) (by omega)) rfl rfl ?_   -- t39
    refine Run.step rfl (Stp.append (n := (nw.take a).length + 1) Tryz.underlying27 ei_68 rfl (by decide) rfl rfl o28 (pit_cut1 (kn28.slz hn12) (by omega)) (pf_one _) (by rw [List.length_drop]; omega) (by rw [List.length_drop]; omega) rfl ?_)   -- t40
    intro v40 w40 o40 k40 n40
    have kn40 : Kt No w12 w40 := kn28.new k40 n28
    have hb := kn40.at0 hb12
    have ho := ho12.kt0 kn40
    refine Run.ev (Ev.nilCheck rfl) rfl rfl ?_   -- t41
    refine Run.ev (Ev.fieldAddr fo_29_0 rfl rfl) rfl rfl ?_   -- t42
    refine Run.step rfl (Stp.store sc_27 sz_27 rfl rfl (own_one o40) hb (by simp) ?_)   -- tNone
    intro wS kS bS zS
    refine Run.nil ?_
    refine At.end0 rfl rfl ⟨rfl, v40, ⟨bS, ?_, ?_⟩, ?_⟩
    · show Sl wS 68 2 v40 (putP nw n d).length ((putP nw n d).flatMap pfV)
      rw [hee]
      have o := own_three o40
      exact (Sl.of_own o).kt kS (fun k hk h0 => by rintro rfl; exact (Sl.of_own o).ne hb (by intro c f e; cases e) hk h0)
    · exact ho.kt kS (fun k hk h0 => by rintro rfl; exact ho.ne hb (by intro c f e; cases e) hk h0)
    · exact ((k12.no kn40).mono (fun _ _ h => h.elim)).trans kS (fun i _ h => h)

theorem drop_calls (b : Nat) (t : Pit) (k : Nat) (w : World) (h : PitR b t w) (hk : k < t.nw.length) (hl : t.nw.length ≤ 1000) : Calls P 27 [.pointer (some ⟨b, 0, none⟩), natv k].toArray w (Ret fun v w' => v = .tuple #[] ∧ ∃ nv', PitR b { t with nw := dropP t.nw k, nv := nv' } w' ∧ Kt (fun i => i = b) w w') := by
  obtain ⟨nw, old, gen, nv, ov⟩ := t
  obtain ⟨hb, hn, ho⟩ := h
  dsimp only at hb hn ho hl ⊢
  obtain ⟨p, cap, rfl, hc1, hc2⟩ := hn.len
  have hml := maxLen_le
  dsimp only at hk
  have lt22 := List.length_take (i := k) (l := nw)
  refine enterW 25 Tryz.func27 rfl rfl rfl ?_
  refine W.seq ?_
  -- region 0 (new1119.go:1468)
  refine W.region ?_
  refine Run.ev (Ev.assign rfl) rfl rfl ?_   -- t4
  refine Run.nil ?_
  refine At.then ?_
  refine W.seq ?_
  -- region 1 (new1119.go:1469)
  refine W.region ?_
  refine Run.ev (Ev.move rfl) rfl rfl ?_   -- t5
  refine Run.ev (Ev.move rfl) rfl rfl ?_   -- t6
  refine Run.ev (Ev.nilCheck rfl) rfl rfl ?_   -- t7
  refine Run.ev (Ev.fieldAddr fo_29_0 rfl rfl) rfl rfl ?_   -- t8
  refine Run.ev (Ev.load sc_27 rfl (by first | exact cell_of (hb) rfl)) rfl rfl ?_   -- t9
  refine Run.ev (Ev.move rfl) rfl rfl ?_   -- t10
  refine Run.ev (Ev.cut (l := 0) (m := k) Tryz.underlying27 es_68 rfl (.inl ⟨rfl, rfl⟩) (.inr ⟨_, rfl, rfl⟩) (by omega) (by omega) (by omega)) rfl rfl ?_   -- t11
  refine Run.step rfl (Stp.append (n := 0) (m := (nw.take k).length) (xs := []) (ys := (nw.take k).flatMap pfV) Tryz.underlying27 ei_68 rfl (by decide) rfl rfl ⟨by simp, .inl ⟨rfl, rfl⟩⟩ (pit_cut0 hn (by omega)) (pf_one _) (by omega) (by omega) rfl ?_)   -- t12
  intro v12 w12 o12 k12 n12
  rw [Nat.zero_add, List.nil_append] at o12
  have kn12 : Kt No w w12 := k12.mono (fun i _ h => by cases h)
  replace n12 : ∀ k, v12.ownBlock = some k → w.heap.size ≤ k := fun k hk => (n12 k hk).elim (fun h => by cases h) id
  have hbw := hb
  replace hb := kn12.at0 hb
  refine Run.ev (Ev.assign rfl) rfl rfl ?_   -- t4
  refine Run.nil ?_
  refine At.then ?_
  -- region 2 (new1119.go:1470)
  refine W.region ?_
  refine Run.ev (Ev.move rfl) rfl rfl ?_   -- t13
  refine Run.ev (Ev.move rfl) rfl rfl ?_   -- t14
  refine Run.ev (Ev.move rfl) rfl rfl ?_   -- t15
  refine Run.ev (Ev.nilCheck rfl) rfl rfl ?_   -- t16
  refine Run.ev (Ev.fieldAddr fo_29_0 rfl rfl) rfl rfl ?_   -- t17
  refine Run.ev (Ev.load sc_27 rfl (by first | exact cell_of (hb) rfl)) rfl rfl ?_   -- t18
  refine Run.ev (Ev.move rfl) rfl rfl ?_   -- t19
  refine Run.ev (Ev.addN (m := k) (n := 1) rfl rfl (by omega)) rfl rfl ?_   -- t20
  refine Run.ev (Ev.cut (m := nw.length) Tryz.underlying27 es_68 rfl (.inr ⟨_, rfl, rfl⟩) (.inl ⟨rfl, rfl⟩) (by omega) (by omega) (by omega)) rfl rfl ?_   -- t21
  refine Run.step rfl (Stp.append (n := (nw.take k).length) Tryz.underlying27 ei_68 rfl (by decide) rfl rfl o12 (pit_cut1 (kn12.slz hn) (by omega)) (pf_one _) (by rw [List.length_drop]; omega) (by rw [List.length_drop]; omega) rfl ?_)   -- t22
  intro v22 w22 o22 k22 n22
  have kn22 : Kt No w w22 := kn12.new k22 n12
  replace hb := kn22.at0 hbw
  replace ho := ho.kt0 kn22
  refine Run.ev (Ev.nilCheck rfl) rfl rfl ?_   -- t23
  refine Run.ev (Ev.fieldAddr fo_29_0 rfl rfl) rfl rfl ?_   -- t24
  refine Run.step rfl (Stp.store sc_27 sz_27 rfl rfl (own_one o22) hb (by simp) ?_)   -- tNone
  intro wS kS bS zS
  have hee : dropP nw k = nw.take k ++ nw.drop (k + 1) := rfl
  refine Run.nil ?_
  refine At.end0 rfl rfl ⟨rfl, v22, ⟨bS, ?_, ?_⟩, ?_⟩
  · show Sl wS 68 2 v22 (dropP nw k).length ((dropP nw k).flatMap pfV)
    rw [hee]
    have o := own_two o22
    exact (Sl.of_own o).kt kS (fun k hk h0 => by rintro rfl; exact (Sl.of_own o).ne hb (by intro c f e; cases e) hk h0)
  · exact ho.kt kS (fun k hk h0 => by rintro rfl; exact ho.ne hb (by intro c f e; cases e) hk h0)
  · exact (kn22.mono (fun _ _ h => h.elim)).trans kS (fun i _ h => h)

end Go.Proofs.YtlcgeepjekcfgaaGreat
