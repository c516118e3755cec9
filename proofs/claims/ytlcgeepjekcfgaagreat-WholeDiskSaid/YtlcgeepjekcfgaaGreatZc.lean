/- A crash: its small functions. -/
import Derived.Test.YtlcgeepjekcfgaaGreatY
namespace Go.Proofs.YtlcgeepjekcfgaaGreat
open Go.RowKit
set_option linter.unusedVariables false
set_option linter.unusedSimpArgs false


theorem flat2_len {α : Type} {enc : α → List Value} (h2 : ∀ a, (enc a).length = 2) (l : List α) : (l.flatMap enc).length = l.length * 2 := by
  induction l with
  | nil => rfl
  | cons x r ih => simp [List.flatMap_cons, h2, ih]; omega
theorem flat2_drop {α : Type} {enc : α → List Value} (h2 : ∀ a, (enc a).length = 2) : ∀ (l : List α) (j : Nat) (a : α), l[j]? = some a → ((l.flatMap enc).drop (j * 2)).take 2 = enc a
  | x :: r, 0, a, h => by
    simp at h; subst h
    rw [List.flatMap_cons, Nat.zero_mul, List.drop_zero, List.take_append_of_le_length (by rw [h2]; exact Nat.le_refl _)]
    exact List.take_of_length_le (by rw [h2]; exact Nat.le_refl _)
  | x :: r, j + 1, a, h => by
    simp at h
    rw [List.flatMap_cons, show (j + 1) * 2 = 2 + j * 2 by omega, ← List.drop_drop]
    have h3 : (enc x ++ r.flatMap enc).drop 2 = r.flatMap enc := by
      rw [List.drop_append_of_le_length (by rw [h2]; exact Nat.le_refl _), List.drop_of_length_le (by rw [h2]; exact Nat.le_refl _)]; rfl
    rw [h3]; exact flat2_drop h2 r j a h
theorem row_at {α : Type} {enc : α → List Value} (h2 : ∀ a, (enc a).length = 2) {w : World} {e : TypeId} {v : Value} {l : List α} (h : Sl w e 2 v l.length (l.flatMap enc)) {j : Nat} {a : α} (hj : l[j]? = some a) : ∃ g off cap cur fr, v = .slice (some ⟨g, off, none⟩) l.length cap ∧ w.heap[g]? = some (.cells cur e fr) ∧ (cur.toList.drop (off + j * 2)).take 2 = enc a := by
  have hjl := (List.getElem?_eq_some_iff.1 hj).1
  obtain ⟨_, p, cap, rfl, _, _, h4⟩ := h
  rcases h4 with h4 | ⟨g, off, cur, fr, rfl, hg, ht⟩
  · omega
  · refine ⟨g, off, cap, cur, fr, rfl, hg, ?_⟩
    rw [← flat2_drop h2 l j a hj, ← ht, List.drop_take, List.drop_drop, List.take_take]
    congr 1
    omega
/-- a row, one element of which is changed. -/
theorem own_row {w : World} {e n pb cap : Nat} {xs : List Value} (h : w.ownsRow 0 e 1 (.slice (some ⟨pb, 0, none⟩) n cap) n xs) : ∃ cur : Array Value, w.heap[pb]? = some (.cells cur e (0, 0)) ∧ n ≤ cur.size ∧ cur.toList.take n = xs ∧
    ∀ (w' : World) (i : Nat) (v : Value), i < n → w'.heap[pb]? = some (.cells (cur.setIfInBounds i v) e (0, 0)) → w'.ownsRow 0 e 1 (.slice (some ⟨pb, 0, none⟩) n cap) n (xs.set i v) := by
  rcases h.2 with ⟨h0, _⟩ | ⟨g, c, cur, hv, _, hg, h1, h2, h3, h4⟩
  · cases h0
  · cases hv
    rw [Nat.mul_one] at h3 h4
    refine ⟨cur, hg, by omega, h4, fun w' i v hi hw => ⟨by have := h.1; simpa using this, .inr ⟨pb, cap, _, rfl, Nat.zero_le _, hw, h1, h2, by simpa using h3, ?_⟩⟩⟩
    rw [Nat.mul_one, Array.toList_setIfInBounds, List.take_set, h4]
theorem evV_2 (e : EvP) : (evV e).length = 2 := rfl
abbrev TornP := Nat × Nat
def tornV (t : TornP) : List Value := [natv t.1, natv t.2]
theorem tornV_2 (t : TornP) : (tornV t).length = 2 := rfl
def evOK (e : EvP) : Prop := -1 ≤ e.1 ∧ e.1 < 256 ∧ (0 ≤ e.1 → e.2.length = 64)
def tornOK (t : TornP) : Prop := t.1 < 256 ∧ t.2 ≤ 64
theorem tornV_one (t : TornP) : ∀ u ∈ (Value.agg #[natv t.1, natv t.2]).cells.toList, u.oneCell' = true := by
  intro u hu
  simp [Value.cells] at hu
  rcases hu with rfl | rfl <;> rfl

theorem crash1_calls (e : EvP) (w : World) (h : evOK e) : Calls P 59 [.agg #[.int .i64 e.1, str e.2]].toArray w (Ret fun v w' => v = natv 0 ∧ Kt No w w') := by
  refine enterW 22 Tryz.func59 rfl rfl rfl ?_
  refine W.seq ?_
  -- region 0 (store.go:231)
  refine W.region ?_
  refine Run.step rfl (Stp.box rfl rfl ?_)   -- t1
  intro a1 w1 e1 k1 b1 z1
  replace b1 : w1.heap[a1]? = some (.cells #[.int .i64 e.1, str e.2] 118 (0, 0)) := b1
  obtain ⟨h1, h2, h3⟩ := h
  refine Run.ev (Ev.assign rfl) rfl rfl ?_   -- t2
  refine Run.nil ?_
  refine At.then ?_
  refine W.seq ?_
  refine W.seq ?_
  -- region 1 (store.go:232)
  refine W.region ?_
  refine Run.ev (Ev.fieldAddr fo_118_0 rfl rfl) rfl rfl ?_   -- t3
  refine Run.ev (Ev.load (v := .int .i64 e.1) sc_3 rfl (cell_of b1 rfl)) rfl rfl ?_   -- t4
  refine Run.ev (Ev.lss (m := e.1) (n := -1) rfl rfl rfl) rfl rfl ?_   -- t5
  refine Run.ev (Ev.move rfl) rfl rfl ?_   -- t6
  refine Run.evg rfl rfl (fun hg => (Ev.fieldAddr fo_118_0 rfl rfl)) rfl ?_   -- t7
  refine Run.evg rfl rfl (fun hg => (Ev.load (v := .int .i64 e.1) sc_3 (ifp hg) (cell_of b1 rfl))) rfl ?_   -- t8
  refine Run.evg rfl rfl (fun hg => (Ev.geq (m := e.1) (n := 256) (ifp hg) rfl rfl)) rfl ?_   -- t9
  refine Run.ev (Ev.pick_or rfl rfl rfl) rfl rfl ?_   -- t10
  refine Run.ev (Ev.move rfl) rfl rfl ?_   -- t11
  refine Run.evg rfl rfl (fun hg => (Ev.fieldAddr fo_118_0 rfl rfl)) rfl ?_   -- t12
  refine Run.evg rfl rfl (fun hg => (Ev.load (v := .int .i64 e.1) sc_3 (ifp hg) (cell_of b1 rfl))) rfl ?_   -- t13
  refine Run.evg rfl rfl (fun hg => (Ev.geq (m := e.1) (n := 0) (ifp hg) rfl rfl)) rfl ?_   -- t14
  refine Run.evg rfl rfl (fun hg => (Ev.move (ifp hg))) rfl ?_   -- t15
  refine Run.evh rfl rfl (fun hg => (Ev.fieldAddr fo_118_1 rfl rfl)) rfl ?_   -- t16
  refine Run.evh rfl rfl (fun hg => (Ev.load (v := str e.2) sc_9 (ifp hg) (cell_of b1 rfl))) rfl ?_   -- t17
  refine Run.evh rfl rfl (fun hg => (Ev.slen (ifp hg) Tryz.underlying9)) rfl ?_   -- t18
  refine Run.evh rfl rfl (fun hg => (Ev.neq (ifp hg) rfl rfl)) rfl ?_   -- t19
  refine Run.evg rfl rfl (fun hg => (Ev.pick_andh hg rfl rfl rfl)) rfl ?_   -- t20
  refine Run.ev (Ev.pick_or rfl rfl rfl) rfl rfl ?_   -- t21
  refine Run.nil ?_
  refine At.then ?_
  refine W.cond rfl (fun hc21 => ?_) (fun hc21 => ?_)
  · exfalso
    simp at hc21
    omega
  · refine W.skip ?_
    refine At.then ?_
    refine W.seq ?_
    -- region 3 (store.go:235)
    refine W.region ?_
    refine Run.ev (Ev.assign rfl) rfl rfl ?_   -- t2
    refine Run.nil ?_
    refine At.then ?_
    refine W.ret ?_
    exact At.ret1 rfl rfl rfl ⟨rfl, k1⟩

theorem crash2_calls (t : TornP) (w : World) (h : tornOK t) : Calls P 61 [.agg #[natv t.1, natv t.2]].toArray w (Ret fun v w' => v = .bool false ∧ Kt No w w') := by
  refine enterW 21 Tryz.func61 rfl rfl rfl ?_
  refine W.seq ?_
  -- region 0 (store.go:240)
  refine W.region ?_
  refine Run.step rfl (Stp.box rfl rfl ?_)   -- t1
  intro a1 w1 e1 k1 b1 z1
  replace b1 : w1.heap[a1]? = some (.cells #[natv t.1, natv t.2] 25 (0, 0)) := b1
  obtain ⟨h1, h2⟩ := h
  refine Run.ev (Ev.assign rfl) rfl rfl ?_   -- t2
  refine Run.nil ?_
  refine At.then ?_
  refine W.seq ?_
  -- region 1 (store.go:241)
  refine W.region ?_
  refine Run.ev (Ev.fieldAddr fo_25_0 rfl rfl) rfl rfl ?_   -- t3
  refine Run.ev (Ev.load (v := natv t.1) sc_3 rfl (cell_of b1 rfl)) rfl rfl ?_   -- t4
  refine Run.ev (Ev.lss (m := (t.1 : Int)) (n := 0) rfl rfl rfl) rfl rfl ?_   -- t5
  refine Run.ev (Ev.move rfl) rfl rfl ?_   -- t6
  refine Run.evg rfl rfl (fun hg => (Ev.fieldAddr fo_25_0 rfl rfl)) rfl ?_   -- t7
  refine Run.evg rfl rfl (fun hg => (Ev.load (v := natv t.1) sc_3 (ifp hg) (cell_of b1 rfl))) rfl ?_   -- t8
  refine Run.evg rfl rfl (fun hg => (Ev.geq (m := (t.1 : Int)) (n := 256) (ifp hg) rfl rfl)) rfl ?_   -- t9
  refine Run.ev (Ev.pick_or rfl rfl rfl) rfl rfl ?_   -- t10
  refine Run.ev (Ev.move rfl) rfl rfl ?_   -- t11
  refine Run.evg rfl rfl (fun hg => (Ev.fieldAddr fo_25_1 rfl rfl)) rfl ?_   -- t12
  refine Run.evg rfl rfl (fun hg => (Ev.load (v := natv t.2) sc_3 (ifp hg) (cell_of b1 rfl))) rfl ?_   -- t13
  refine Run.evg rfl rfl (fun hg => (Ev.lss (m := (t.2 : Int)) (n := 0) (ifp hg) rfl rfl)) rfl ?_   -- t14
  refine Run.ev (Ev.pick_or rfl rfl rfl) rfl rfl ?_   -- t15
  refine Run.ev (Ev.move rfl) rfl rfl ?_   -- t16
  refine Run.evg rfl rfl (fun hg => (Ev.fieldAddr fo_25_1 rfl rfl)) rfl ?_   -- t17
  refine Run.evg rfl rfl (fun hg => (Ev.load (v := natv t.2) sc_3 (ifp hg) (cell_of b1 rfl))) rfl ?_   -- t18
  refine Run.evg rfl rfl (fun hg => (Ev.gtr (m := (t.2 : Int)) (n := 64) (ifp hg) rfl rfl)) rfl ?_   -- t19
  refine Run.ev (Ev.pick_or rfl rfl rfl) rfl rfl ?_   -- t20
  refine Run.ev (Ev.assign rfl) rfl rfl ?_   -- t2
  refine Run.nil ?_
  refine At.then ?_
  refine W.ret ?_
  exact At.ret1 rfl rfl rfl ⟨by congr 1; simp; omega, k1⟩

theorem total_calls (l : List EvP) (v : Value) (w : World) (h : Sl w 118 2 v l.length (evsV l)) (hok : ∀ e ∈ l, evOK e) : Calls P 58 [v, .func (.func 59) #[] #[]].toArray w (Ret fun u w' => u = natv 0 ∧ Kt No w w') := by
  obtain ⟨p, cap, rfl, hc1, hc2⟩ := h.len
  have hml := maxLen_le
  refine enterW 21 Tryz.func58 rfl rfl rfl ?_
  refine W.seq ?_
  -- region 0 (store.go:221)
  refine W.region ?_
  refine Run.ev (Ev.assign rfl) rfl rfl ?_   -- t4
  refine Run.nil ?_
  refine At.then ?_
  refine W.seq ?_
  -- region 1 (store.go:222)
  refine W.region ?_
  refine Run.ev (Ev.assign rfl) rfl rfl ?_   -- t5
  refine Run.nil ?_
  refine At.then ?_
  refine W.seq ?_
  refine W.seq ?_
  -- region 2 (store.go:223)
  refine W.region ?_
  refine Run.ev (Ev.move rfl) rfl rfl ?_   -- t8
  refine Run.ev (Ev.len rfl Tryz.underlying55) rfl rfl ?_   -- t9
  refine Run.ev (Ev.move rfl) rfl rfl ?_   -- t10
  refine Run.nil ?_
  refine At.then ?_
  refine W.block ?_
  refine W.loop (fun (j : Nat) => [(1, .func (.func 59) #[] #[]), (5, natv 0), (8, .slice p l.length cap), (9, natv l.length), (10, natv j)])
    (fun j w' => j ≤ l.length ∧ Kt No w w') (fun j => l.length - j) 0 ⟨Nat.zero_le _, Kt.refl _ _⟩ (Env.sub_cons rfl (Env.sub_cons rfl (Env.sub_cons rfl (Env.sub_cons rfl (Env.sub_cons rfl (Env.sub_nil _)))))) ?_
  rintro j w1 ⟨hj, kt⟩
  refine W.seq ?_
  -- region 3 (store.go:223)
  refine W.region ?_
  refine Run.ev (Ev.lss rfl rfl rfl) rfl rfl ?_   -- t11
  refine Run.nil ?_
  refine At.then ?_
  refine W.seq ?_
  refine W.cond rfl (fun hc11 => ?_) (fun hc11 => ?_)
  · replace hc11 := of_decide_eq_true hc11
    obtain ⟨e, he⟩ : ∃ e, l[j]? = some e := ⟨_, List.getElem?_eq_getElem (by omega)⟩
    obtain ⟨g, off, cap2, cur, fr, hv, hg, hev⟩ := row_at evV_2 (h.kt0 kt) he
    cases hv
    have heo := hok e (List.mem_of_getElem? he)
    refine W.skip ?_
    refine At.then ?_
    refine W.seq ?_
    refine W.block ?_
    refine W.seq ?_
    -- region 4 (store.go:223)
    refine W.region ?_
    refine Run.ev (Ev.indexAddr Tryz.underlying55 es_118 rfl rfl (by omega) rfl) rfl rfl ?_   -- t12
    refine Run.ev (Ev.to (v' := .agg #[.int .i64 e.1, str e.2]) rfl (Ev.loadA (vs := evV e) ag_118 rfl hg (by rw [← hev]; congr 2) rfl)) rfl rfl ?_   -- t13
    refine Run.step rfl (Stp.alloc zc_118 rfl ?_)   -- t7
    intro a7 w7 e7 k7 b7 z7
    refine Run.step rfl (Stp.storeA (vs := [.int .i64 e.1, str e.2]) ag_118 rfl rfl rfl (evV_one e) b7 (by simp) ?_)   -- tNone
    intro wS kS bS zS
    replace bS : wS.heap[a7]? = some (.cells #[.int .i64 e.1, str e.2] 118 (0, 0)) := bS
    have kt2 := (kt.no k7).new kS (by rintro i rfl; have := kt.size; omega)
    refine Run.nil ?_
    refine At.then ?_
    -- region 5 (store.go:224)
    refine W.region ?_
    refine Run.ev (Ev.move rfl) rfl rfl ?_   -- t14
    refine Run.ev (Ev.move rfl) rfl rfl ?_   -- t15
    refine Run.ev (Ev.to (v' := .agg #[.int .i64 e.1, str e.2]) rfl (Ev.loadA ag_118 rfl bS rfl rfl)) rfl rfl ?_   -- t16
    refine Run.step rfl (Stp.callv (R := Ret fun u w' => u = natv 0 ∧ Kt No wS w') en_59 rfl rfl (crash1_calls e wS heo) rfl ?_ (fun _ _ h => h.elim) (fun _ h => h.elim))   -- t17
    rintro v17 w17 ⟨rfl, k17⟩
    refine Run.ev (Ev.addN (m := 0) (n := 0) rfl rfl (by omega)) rfl rfl ?_   -- t18
    refine Run.ev (Ev.assign rfl) rfl rfl ?_   -- t5
    refine Run.nil ?_
    refine At.block ?_
    refine At.then ?_
    -- region 6 (store.go:223)
    refine W.region ?_
    refine Run.ev (Ev.add rfl rfl (by omega)) rfl rfl ?_   -- t19
    refine Run.ev (Ev.move rfl) rfl rfl ?_   -- t10
    refine Run.nil ?_
    exact At.round (j + 1) (Env.sub_cons rfl (Env.sub_cons rfl (Env.sub_cons rfl (Env.sub_cons rfl (Env.sub_cons rfl (Env.sub_nil _)))))) ⟨by omega, kt2.no k17⟩ (by omega)
  · replace hc11 := of_decide_eq_false hc11
    obtain rfl : j = l.length := by omega
    refine W.exit ?_
    refine At.then_exit ?_
    refine At.then_exit ?_
    refine At.block_here ?_
    refine At.then ?_
    refine W.seq ?_
    -- region 7 (store.go:226)
    refine W.region ?_
    refine Run.ev (Ev.move rfl) rfl rfl ?_   -- t20
    refine Run.ev (Ev.assign rfl) rfl rfl ?_   -- t4
    refine Run.nil ?_
    refine At.then ?_
    refine W.ret ?_
    exact At.ret1 rfl rfl rfl ⟨rfl, kt⟩

theorem indexF_calls (l : List TornP) (v : Value) (w : World) (h : Sl w 25 2 v l.length (l.flatMap tornV)) (hok : ∀ t ∈ l, tornOK t) : Calls P 76 [v, .func (.func 61) #[] #[]].toArray w (Ret fun u w' => u = .int .i64 (-1) ∧ Kt No w w') := by
  obtain ⟨p, cap, rfl, hc1, hc2⟩ := h.len
  have hml := maxLen_le
  refine enterW 19 Tryz.func76 rfl rfl rfl ?_
  refine W.seq ?_
  -- region 0 (slices.go:107)
  refine W.region ?_
  refine Run.ev (Ev.assign rfl) rfl rfl ?_   -- t4
  refine Run.nil ?_
  refine At.then ?_
  refine W.seq ?_
  refine W.seq ?_
  -- region 1 (slices.go:108)
  refine W.region ?_
  refine Run.ev (Ev.move rfl) rfl rfl ?_   -- t6
  refine Run.ev (Ev.len rfl Tryz.underlying23) rfl rfl ?_   -- t7
  refine Run.ev (Ev.move rfl) rfl rfl ?_   -- t8
  refine Run.nil ?_
  refine At.then ?_
  refine W.block ?_
  refine W.loop (fun (j : Nat) => [(0, .slice p l.length cap), (1, .func (.func 61) #[] #[]), (7, natv l.length), (8, natv j)])
    (fun j w' => j ≤ l.length ∧ Kt No w w') (fun j => l.length - j) 0 ⟨Nat.zero_le _, Kt.refl _ _⟩ (Env.sub_cons rfl (Env.sub_cons rfl (Env.sub_cons rfl (Env.sub_cons rfl (Env.sub_nil _))))) ?_
  rintro j w1 ⟨hj, kt⟩
  refine W.seq ?_
  -- region 2 (slices.go:108)
  refine W.region ?_
  refine Run.ev (Ev.lss rfl rfl rfl) rfl rfl ?_   -- t9
  refine Run.nil ?_
  refine At.then ?_
  refine W.seq ?_
  refine W.cond rfl (fun hc9 => ?_) (fun hc9 => ?_)
  · replace hc9 := of_decide_eq_true hc9
    obtain ⟨t, ht⟩ : ∃ t, l[j]? = some t := ⟨_, List.getElem?_eq_getElem (by omega)⟩
    obtain ⟨g, off, cap2, cur, fr, hv, hg, hev⟩ := row_at tornV_2 (h.kt0 kt) ht
    cases hv
    have heo := hok t (List.mem_of_getElem? ht)
    refine W.skip ?_
    refine At.then ?_
    refine W.seq ?_
    refine W.block ?_
    refine W.seq ?_
    -- region 3 (slices.go:108)
    refine W.region ?_
    refine Run.ev (Ev.move rfl) rfl rfl ?_   -- t10
    refine Run.ev (Ev.assign rfl) rfl rfl ?_   -- t5
    refine Run.nil ?_
    refine At.then ?_
    refine W.seq ?_
    -- region 4 (slices.go:109)
    refine W.region ?_
    refine Run.ev (Ev.move rfl) rfl rfl ?_   -- t11
    refine Run.ev (Ev.move rfl) rfl rfl ?_   -- t12
    refine Run.ev (Ev.move rfl) rfl rfl ?_   -- t13
    refine Run.ev (Ev.indexAddr Tryz.underlying23 es_25 rfl rfl (by omega) rfl) rfl rfl ?_   -- t14
    refine Run.ev (Ev.to (v' := .agg #[natv t.1, natv t.2]) rfl (Ev.loadA (vs := tornV t) ag_25 rfl hg (by rw [← hev]; congr 2) rfl)) rfl rfl ?_   -- t15
    refine Run.step rfl (Stp.callv (R := Ret fun u w' => u = .bool false ∧ Kt No w1 w') en_61 rfl rfl (crash2_calls t w1 heo) rfl ?_ (fun _ _ h => h.elim) (fun _ h => h.elim))   -- t16
    rintro v16 w16 ⟨rfl, k16⟩
    refine Run.nil ?_
    refine At.then ?_
    refine W.cond_f rfl ?_
    refine W.skip ?_
    refine At.block ?_
    refine At.then ?_
    -- region 6 (slices.go:108)
    refine W.region ?_
    refine Run.ev (Ev.add rfl rfl (by omega)) rfl rfl ?_   -- t18
    refine Run.ev (Ev.move rfl) rfl rfl ?_   -- t8
    refine Run.nil ?_
    exact At.round (j + 1) (Env.sub_cons rfl (Env.sub_cons rfl (Env.sub_cons rfl (Env.sub_cons rfl (Env.sub_nil _))))) ⟨by omega, kt.no k16⟩ (by omega)
  · replace hc9 := of_decide_eq_false hc9
    obtain rfl : j = l.length := by omega
    refine W.exit ?_
    refine At.then_exit ?_
    refine At.then_exit ?_
    refine At.block_here ?_
    refine At.then ?_
    refine W.seq ?_
    -- region 7 (slices.go:113)
    refine W.region ?_
    refine Run.ev (Ev.assign rfl) rfl rfl ?_   -- t4
    refine Run.nil ?_
    refine At.then ?_
    refine W.ret ?_
    exact At.ret1 rfl rfl rfl ⟨rfl, kt⟩

theorem containsF_calls (l : List TornP) (v : Value) (w : World) (h : Sl w 25 2 v l.length (l.flatMap tornV)) (hok : ∀ t ∈ l, tornOK t) : Calls P 60 [v, .func (.func 61) #[] #[]].toArray w (Ret fun u w' => u = .bool false ∧ Kt No w w') := by
  refine enterW 9 Tryz.func60 rfl rfl rfl ?_
  refine W.seq ?_
  -- region 0 (slices.go:124)
  refine W.region ?_
  refine Run.ev (Ev.assign rfl) rfl rfl ?_   -- t4
  refine Run.nil ?_
  refine At.then ?_
  refine W.seq ?_
  -- region 1 (slices.go:125)
  refine W.region ?_
  refine Run.ev (Ev.move rfl) rfl rfl ?_   -- t5
  refine Run.ev (Ev.move rfl) rfl rfl ?_   -- t6
  refine Run.step rfl (Stp.callr en_76 rfl (indexF_calls l v w h hok) rfl ?_)   -- t7
  rintro v7 w7 ⟨rfl, k7⟩
  refine Run.ev (Ev.geq (m := -1) (n := 0) rfl rfl rfl) rfl rfl ?_   -- t8
  refine Run.ev (Ev.assign rfl) rfl rfl ?_   -- t4
  refine Run.nil ?_
  refine At.then ?_
  refine W.ret ?_
  exact At.ret1 rfl rfl rfl ⟨rfl, k7⟩

end Go.Proofs.YtlcgeepjekcfgaaGreat
