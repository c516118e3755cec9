/- The pit: pitUsed. -/
import Derived.Test.YtlcgeepjekcfgaaGreatZg
import Derived.Laws.StructEq
namespace Go.Proofs.YtlcgeepjekcfgaaGreat
open Go.RowKit
set_option linter.unusedVariables false
set_option linter.unusedSimpArgs false


theorem part1 {xs : Array Value} {i : Nat} {v : Value} (h : xs[i]? = some v) (w : World) : (part 9 xs i).run P w = .ok v w := by
  have h1 := run_isAgg_scal sc_9 w
  simp [part, h1, h]
theorem eq9 (d : Nat) (a b : Bs) (w : World) : (Op.equalIn (d + 1) 9 (str a) (str b)).run P w = .ok (decide (a = b)) w := by
  have hu : P.underlying 9 = some .string := by kernel_rfl
  have he : ((⟨a.toArray⟩ : ByteArray) == ⟨b.toArray⟩) = decide (a = b) := by
    rw [beq_toListBytes, bytes_toList, bytes_toList]; exact beqd a b
  simp only [Op.equalIn, Sem.run_bind, run_underlying hu, Result.andThen_ok, str]
  simp [he]
theorem eqA {w : World} {t d : Nat} {fs : Array Field} {xs ys : Array Value} (hu : P.underlying t = some (.struct fs)) (hp : P.stoodInHeld t = false) : (Op.equalIn (d + 1) t (.agg xs) (.agg ys)).run P w = (Op.eqFields d xs ys fs.toList).run P w := by
  have hf : P.fieldsOf t = fs := by simp [Program.fieldsOf, hu]
  rw [run_equalIn_struct w d t xs ys (by rw [hf]; exact hu) hp, hf]
theorem eqF {w : World} {d : Nat} {xs ys : Array Value} {f : Field} {fs : List Field} {a b : Bs} {s : Bool} (ht : f.type = 9) (hn : (f.name == "_") = false) (ha : xs[f.offset]? = some (str a)) (hb : ys[f.offset]? = some (str b)) (hr : (Op.eqFields (d + 1) xs ys fs).run P w = .ok s w) : (Op.eqFields (d + 1) xs ys (f :: fs)).run P w = .ok (decide (a = b) && s) w := by
  have hn' : f.name ≠ "_" := by simpa using hn
  rw [Op.eqFields]
  simp only [if_pos hn', Sem.run_bind, ht, part1 ha, part1 hb, eq9, Result.andThen_ok]
  by_cases h : a = b
  · simpa [h] using hr
  · simp [h]
theorem eq68 (a b : PitF) (w : World) : (Op.equal 68 (.agg (pfV a).toArray) (.agg (pfV b).toArray)).run P w = .ok (decide (a = b)) w := by
  have h0 : decide (a = b) = (decide (a.1 = b.1) && (decide (a.2 = b.2) && true)) := by
    rw [Bool.eq_iff_iff]; simp [Prod.ext_iff]
  rw [h0]
  refine (eqA (d := 9999) Tryz.underlying68 (by kernel_rfl)).trans ?_
  refine eqF (d := 9998) rfl rfl rfl rfl ?_
  refine eqF (d := 9998) rfl rfl rfl rfl ?_
  simp [Op.eqFields]
theorem eg68 : P.eqGuardType P.depth 68 = false := by kernel_rfl
theorem Ev.pfneq {X : Cx} {E : Env} {w : World} {ty : TypeId} {x y : Operand} {a b : PitF} {u : TypeId} (hx : E.ev x = some (.agg (pfV a).toArray)) (hy : E.ev y = some (.agg (pfV b).toArray)) : Ev X (.binOp .neq 68 x y u) ty E w (.bool (!decide (a = b))) w :=
  ⟨(by intro c e; cases e), fun s hs d pos aft g => by
    have h := eq68 a b w
    simp only [pfV] at h hx hy
    simp [execOp, hs.ev hx, hs.ev hy, eqGuard, eg68, binOp, h]⟩

def chP (n : Nat) : Nat := (n + 56) / 57
def stepU (old : List PitF) (u : Nat × Nat × Nat × Nat) (x : PitF) : Nat × Nat × Nat × Nat :=
  (u.1 + chP x.2.length, (if old[u.2.2.2 + atP (old.drop u.2.2.2) x.1]? = some x then u.2.1 else u.2.1 + chP x.2.length), u.2.2.1 + (x.1.length + 5), u.2.2.2 + atP (old.drop u.2.2.2) x.1)
def useTo (now old : List PitF) (j : Nat) : Nat × Nat × Nat × Nat := (now.take j).foldl (stepU old) (0, 0, 0, 0)
theorem useTo_succ {now old : List PitF} {j : Nat} {x : PitF} (h : now[j]? = some x) : useTo now old (j + 1) = stepU old (useTo now old j) x := by
  unfold useTo
  rw [List.take_add_one, h]; simp
def pusedP (now old : List PitF) : Nat × Nat := ((useTo now old now.length).1 + chP (useTo now old now.length).2.2.1, (useTo now old now.length).2.1 + chP (useTo now old now.length).2.2.1)


theorem gne {a b : Nat} (h : decide ((a : Int) = (b : Int)) = false) (hl : a ≤ b) : a < b := by have := of_decide_eq_false h; omega

theorem pitUsed_calls (now old : List PitF) (v0 v1 : Value) (w : World) (h0 : Sl w 68 2 v0 now.length (now.flatMap pfV)) (h1 : Sl w 68 2 v1 old.length (old.flatMap pfV)) (hl : now.length ≤ 1000) (hlo : old.length ≤ 1000) (hnb : ∀ p ∈ now, p.1.length ≤ 1000 ∧ p.2.length ≤ 100000) : Calls P 12 [v0, v1].toArray w (Ret fun v w' => v = .tuple #[natv (pusedP now old).1, natv (pusedP now old).2] ∧ Kt No w w') := by
  obtain ⟨p0, c0, rfl, hc01, hc02⟩ := h0.len
  obtain ⟨p1, c1, rfl, hc11, hc12⟩ := h1.len
  have hml := maxLen_le
  refine enterW 82 Tryz.func12 rfl rfl rfl ?_
  refine W.seq ?_
  -- region 0 (new1119.go:1477)
  refine W.region ?_
  refine Run.ev (Ev.assign rfl) rfl rfl ?_   -- t4
  refine Run.ev (Ev.assign rfl) rfl rfl ?_   -- t5
  refine Run.nil ?_
  refine At.then ?_
  refine W.seq ?_
  -- region 1 (new1119.go:1478)
  refine W.region ?_
  refine Run.ev (Ev.assign rfl) rfl rfl ?_   -- t6
  refine Run.ev (Ev.assign rfl) rfl rfl ?_   -- t7
  refine Run.ev (Ev.assign rfl) rfl rfl ?_   -- t8
  refine Run.ev (Ev.assign rfl) rfl rfl ?_   -- t9
  refine Run.nil ?_
  refine At.then ?_
  refine W.seq ?_
  refine W.seq ?_
  -- region 2 (new1119.go:1479)
  refine W.region ?_
  refine Run.ev (Ev.assign rfl) rfl rfl ?_   -- t10
  refine Run.nil ?_
  refine At.then ?_
  refine W.block ?_
  refine W.loop (fun (x : Nat × Nat × Nat × Nat × Nat) => [(0, .slice p0 now.length c0), (1, .slice p1 old.length c1), (6, natv x.2.1), (7, natv x.2.2.1), (8, natv x.2.2.2.1), (9, natv x.2.2.2.2), (10, natv x.1)])
    (fun x w' => x.1 ≤ now.length ∧ x.2 = useTo now old x.1 ∧ x.2.1 ≤ x.1 * 2000 ∧ x.2.2.1 ≤ x.1 * 2000 ∧ x.2.2.2.1 ≤ x.1 * 2000 ∧ x.2.2.2.2 ≤ old.length ∧ Kt No w w') (fun x => now.length - x.1) (0, 0, 0, 0, 0) ⟨Nat.zero_le _, rfl, Nat.zero_le _, Nat.zero_le _, Nat.zero_le _, Nat.zero_le _, Kt.refl _ _⟩ (Env.sub_cons rfl (Env.sub_cons rfl (Env.sub_cons rfl (Env.sub_cons rfl (Env.sub_cons rfl (Env.sub_cons rfl (Env.sub_cons rfl (Env.sub_nil _)))))))) ?_
  rintro ⟨j, u1, u2, u3, u4⟩ w1 ⟨hj, hu, hb1, hb2, hb3, hb4, kt⟩
  dsimp only at hj hu hb1 hb2 hb3 hb4
  show W _ _ _ [(0, .slice p0 now.length c0), (1, .slice p1 old.length c1), (6, natv u1), (7, natv u2), (8, natv u3), (9, natv u4), (10, natv j)] w1
  refine W.seq ?_
  refine W.seq ?_
  -- region 3 (new1119.go:1479)
  refine W.region ?_
  refine Run.ev (Ev.move rfl) rfl rfl ?_   -- t12
  refine Run.ev (Ev.move rfl) rfl rfl ?_   -- t13
  refine Run.ev (Ev.len rfl Tryz.underlying27) rfl rfl ?_   -- t14
  refine Run.ev (Ev.lss rfl rfl rfl) rfl rfl ?_   -- t15
  refine Run.nil ?_
  refine At.then ?_
  refine W.cond rfl (fun hc15 => ?_) (fun hc15 => ?_)
  · replace hc15 := of_decide_eq_true hc15
    have hjl : j < now.length := by omega
    obtain ⟨gn, on, curn, frn, x, hx⟩ := pit_may h0 j
    obtain ⟨rfl, hg0, hx1, hx2, hx3, hxj⟩ := hx hjl
    have hxb := hnb x (List.mem_of_getElem? hxj)
    have hch : chP x.2.length ≤ 2000 := by unfold chP; omega
    refine W.skip ?_
    refine At.then ?_
    refine W.seq ?_
    refine W.block ?_
    refine W.seq ?_
    -- region 5 (new1119.go:1480)
    refine W.region ?_
    refine Run.ev (Ev.move rfl) rfl rfl ?_   -- t18
    refine Run.ev (Ev.move rfl) rfl rfl ?_   -- t19
    refine Run.ev (Ev.indexAddr Tryz.underlying27 es_68 rfl rfl (by omega) rfl) rfl rfl ?_   -- t20
    refine Run.ev (Ev.fieldAddr fo_68_1 rfl rfl) rfl rfl ?_   -- t21
    refine Run.ev (Ev.load (v := str x.2) sc_9 rfl (cell_of (kt.at0 hg0) hx2)) rfl rfl ?_   -- t22
    refine Run.ev (Ev.slen rfl Tryz.underlying9) rfl rfl ?_   -- t23
    refine Run.step rfl (Stp.callr en_34 rfl (pitChain_calls x.2.length w1 (by omega)) rfl ?_)   -- t24
    rintro v24 _ ⟨rfl, rfl⟩
    change Run _ _ _ _ ((24, natv (chP x.2.length)) :: _) _
    refine Run.ev (Ev.assign rfl) rfl rfl ?_   -- t11
    refine Run.nil ?_
    refine At.then ?_
    refine W.seq ?_
    -- region 6 (new1119.go:1481)
    refine W.region ?_
    refine Run.ev (Ev.move rfl) rfl rfl ?_   -- t25
    refine Run.ev (Ev.move rfl) rfl rfl ?_   -- t26
    refine Run.ev (Ev.addN (m := u1) (n := chP x.2.length) rfl rfl (by omega)) rfl rfl ?_   -- t27
    refine Run.ev (Ev.assign rfl) rfl rfl ?_   -- t6
    refine Run.nil ?_
    refine At.then ?_
    refine W.seq ?_
    -- region 7 (new1119.go:1482)
    refine W.region ?_
    refine Run.ev (Ev.move rfl) rfl rfl ?_   -- t28
    refine Run.ev (Ev.move rfl) rfl rfl ?_   -- t29
    refine Run.ev (Ev.move rfl) rfl rfl ?_   -- t30
    refine Run.ev (Ev.indexAddr Tryz.underlying27 es_68 rfl rfl (by omega) rfl) rfl rfl ?_   -- t31
    refine Run.ev (Ev.fieldAddr fo_68_0 rfl rfl) rfl rfl ?_   -- t32
    refine Run.ev (Ev.load (v := str x.1) sc_9 rfl (cell_of (kt.at0 hg0) hx1)) rfl rfl ?_   -- t33
    refine Run.ev (Ev.slen rfl Tryz.underlying9) rfl rfl ?_   -- t34
    refine Run.ev (Ev.addN (m := x.1.length) (n := 5) rfl rfl (by omega)) rfl rfl ?_   -- t35
    refine Run.ev (Ev.addN (m := u3) (n := x.1.length + 5) rfl rfl (by omega)) rfl rfl ?_   -- t36
    refine Run.ev (Ev.assign rfl) rfl rfl ?_   -- t8
    refine Run.nil ?_
    refine At.then ?_
    refine W.seq ?_
    refine W.block ?_
    refine W.loop (fun (c : Nat) => [(0, .slice (some ⟨gn, on, none⟩) now.length c0), (1, .slice p1 old.length c1), (6, natv (u1 + chP x.2.length)), (7, natv u2), (8, natv (u3 + (x.1.length + 5))), (9, natv c), (10, natv j), (11, natv (chP x.2.length))])
      (fun c w' => u4 ≤ c ∧ c ≤ old.length ∧ (∀ i p, i < c - u4 → (old.drop u4)[i]? = some p → Op.bytesLess p.1 x.1 = true) ∧ Kt No w w') (fun c => old.length - c) u4 ⟨Nat.le_refl _, hb4, fun i p hi => by omega, kt⟩ (Env.sub_cons rfl (Env.sub_cons rfl (Env.sub_cons rfl (Env.sub_cons rfl (Env.sub_cons rfl (Env.sub_cons rfl (Env.sub_cons rfl (Env.sub_cons rfl (Env.sub_nil _))))))))) ?_
    clear kt
    rintro c w2 ⟨hc, hcl, hall, kt⟩
    obtain ⟨go, oo, curo, fro, y, hy⟩ := pit_may h1 c
    refine W.seq ?_
    refine W.seq ?_
    -- region 8 DRAWS (new1119.go:1483)
    refine W.draw (fun w' => Kt No w2 w') [(0, true), (1, true), (2, true), (3, true), (4, true), (5, true), (6, true), (7, true), (8, true), (9, true), (10, true), (11, true), (12, true), (13, true), (14, true), (15, true), (16, true)] (by repeat (first | exact PQ.body | with_reducible apply PQ.then | with_reducible apply PQ.block)) (by kernel_rfl) (by kernel_rfl) (by kernel_rfl) rfl ?_
    have hS0 := (Kt.refl No w2).drew
    refine RunD.ev rfl (fun w' hS => (Ev.move rfl)) hS0 rfl rfl ?_   -- t37
    refine RunD.ev rfl (fun w' hS => (Ev.move rfl)) hS0 rfl rfl ?_   -- t38
    refine RunD.ev rfl (fun w' hS => (Ev.len rfl Tryz.underlying27)) hS0 rfl rfl ?_   -- t39
    refine RunD.ev rfl (fun w' hS => (Ev.lss rfl rfl rfl)) hS0 rfl rfl ?_   -- t40
    refine RunD.ev rfl (fun w' hS => (Ev.move rfl)) hS0 rfl rfl ?_   -- t41
    refine RunD.evg rfl rfl rfl (fun hg w' hS => (Ev.move rfl)) hS0 rfl ?_   -- t42
    refine RunD.evg rfl rfl rfl (fun hg w' hS => (Ev.move rfl)) hS0 rfl ?_   -- t43
    refine RunD.evg rfl rfl rfl (fun hg w' hS => (Ev.indexAddr (b := go) (off := oo) Tryz.underlying27 es_68 ((ifp hg).trans (by rw [(hy (gl hg)).1])) (ifp hg) (by have := gl hg; omega) rfl)) hS0 rfl ?_   -- t44
    refine RunD.evg rfl rfl rfl (fun hg w' hS => (Ev.fieldAddr fo_68_0 (ifp hg) rfl)) hS0 rfl ?_   -- t45
    refine RunD.evg rfl rfl rfl (fun hg w' hS => (Ev.load (v := str y.1) sc_9 (ifp hg) (cell_of ((kt.no hS).at0 (hy (gl hg)).2.1) (hy (gl hg)).2.2.1))) hS0 rfl ?_   -- t46
    refine RunD.evg rfl rfl rfl (fun hg w' hS => (Ev.move rfl)) hS0 rfl ?_   -- t47
    refine RunD.evg rfl rfl rfl (fun hg w' hS => (Ev.move rfl)) hS0 rfl ?_   -- t48
    refine RunD.evg rfl rfl rfl (fun hg w' hS => (Ev.indexAddr Tryz.underlying27 es_68 (ifp hg) (ifp hg) (by omega) rfl)) hS0 rfl ?_   -- t49
    refine RunD.evg rfl rfl rfl (fun hg w' hS => (Ev.fieldAddr fo_68_0 (ifp hg) rfl)) hS0 rfl ?_   -- t50
    refine RunD.evg rfl rfl rfl (fun hg w' hS => (Ev.load (v := str x.1) sc_9 (ifp hg) (cell_of ((kt.no hS).at0 hg0) hx1))) hS0 rfl ?_   -- t51
    refine RunD.evg rfl rfl rfl (fun hg w' hS => (Ev.slss (p := y.1) (q := x.1) (ifp hg) (ifp hg) rfl)) hS0 rfl ?_   -- t52
    refine RunD.ev rfl (fun w' hS => (Ev.pick_and rfl rfl rfl)) hS0 rfl rfl ?_   -- t53
    refine RunD.nil ?_
    refine At.then ?_
    refine W.cond rfl (fun hc53 => ?_) (fun hc53 => ?_)
    · rw [Bool.and_eq_true] at hc53
      obtain ⟨hc1, hc2⟩ := hc53
      replace hc1 := gl hc1
      have kt2 := kt.no hS0
      have hyc := (hy hc1).2.2.2.2.2
      refine W.skip ?_
      refine At.then ?_
      refine W.block ?_
      -- region 9 (new1119.go:1484)
      refine W.region ?_
      refine Run.ev (Ev.move rfl) rfl rfl ?_   -- t54
      refine Run.ev (Ev.addN (m := c) (n := 1) rfl rfl (by omega)) rfl rfl ?_   -- t55
      refine Run.ev (Ev.assign rfl) rfl rfl ?_   -- t9
      refine Run.nil ?_
      refine At.block ?_
      exact At.round (c + 1) (Env.sub_cons rfl (Env.sub_cons rfl (Env.sub_cons rfl (Env.sub_cons rfl (Env.sub_cons rfl (Env.sub_cons rfl (Env.sub_cons rfl (Env.sub_cons rfl (Env.sub_nil _))))))))) ⟨by omega, by omega, fun i q hi hq => by
        by_cases h : i = c - u4
        · subst h; rw [List.getElem?_drop, show u4 + (c - u4) = c by omega, hyc] at hq; cases hq; exact hc2
        · exact hall i q (by omega) hq, kt2⟩ (by omega)
    · have kt2 := kt.no hS0
      have hat : u4 + atP (old.drop u4) x.1 = c := by
        have : atP (old.drop u4) x.1 = c - u4 := atP_eq (by rw [List.length_drop]; omega) hall (fun q hq => by
          rw [List.getElem?_drop, show u4 + (c - u4) = c by omega] at hq
          have hjl2 := (List.getElem?_eq_some_iff.1 hq).1
          have e := (hy hjl2).2.2.2.2.2
          rw [hq] at e; cases e
          rw [decide_eq_true (by omega : (c : Int) < (old.length : Int)), Bool.true_and] at hc53
          exact hc53)
        omega
      refine W.exit ?_
      refine At.then_exit ?_
      refine At.then_exit ?_
      refine At.block_here ?_
      refine At.then ?_
      refine W.seq ?_
      -- region 10 DRAWS (new1119.go:1486)
      refine W.draw (fun w' => Kt No w2.drew w') [(0, true), (1, true), (2, true), (3, true), (4, true), (5, true), (6, true), (7, true), (8, true), (9, true), (10, true), (11, true), (12, true), (13, true), (14, true)] (by repeat (first | exact PQ.body | with_reducible apply PQ.then | with_reducible apply PQ.block)) (by kernel_rfl) (by kernel_rfl) (by kernel_rfl) rfl ?_
      have hS0 := (Kt.refl No w2.drew).drew
      refine RunD.ev rfl (fun w' hS => (Ev.move rfl)) hS0 rfl rfl ?_   -- t56
      refine RunD.ev rfl (fun w' hS => (Ev.move rfl)) hS0 rfl rfl ?_   -- t57
      refine RunD.ev rfl (fun w' hS => (Ev.len rfl Tryz.underlying27)) hS0 rfl rfl ?_   -- t58
      refine RunD.ev rfl (fun w' hS => (Ev.eql (m := (c : Int)) (n := (old.length : Int)) rfl rfl rfl)) hS0 rfl rfl ?_   -- t59
      refine RunD.ev rfl (fun w' hS => (Ev.move rfl)) hS0 rfl rfl ?_   -- t60
      refine RunD.evg rfl rfl rfl (fun hg w' hS => (Ev.move rfl)) hS0 rfl ?_   -- t61
      refine RunD.evg rfl rfl rfl (fun hg w' hS => (Ev.move rfl)) hS0 rfl ?_   -- t62
      refine RunD.evg rfl rfl rfl (fun hg w' hS => (Ev.indexAddr (b := go) (off := oo) Tryz.underlying27 es_68 ((ifp hg).trans (by rw [(hy (gne hg hcl)).1])) (ifp hg) (by have := gne hg hcl; omega) rfl)) hS0 rfl ?_   -- t63
      refine RunD.evg rfl rfl rfl (fun hg w' hS => (Ev.to (v' := .agg (pfV y).toArray) rfl (Ev.loadA (vs := pfV y) ag_68 (ifp hg) ((kt2.no hS).at0 (hy (gne hg hcl)).2.1) (hy (gne hg hcl)).2.2.2.2.1 rfl))) hS0 rfl ?_   -- t64
      refine RunD.evg rfl rfl rfl (fun hg w' hS => (Ev.move rfl)) hS0 rfl ?_   -- t65
      refine RunD.evg rfl rfl rfl (fun hg w' hS => (Ev.move rfl)) hS0 rfl ?_   -- t66
      refine RunD.evg rfl rfl rfl (fun hg w' hS => (Ev.indexAddr Tryz.underlying27 es_68 (ifp hg) (ifp hg) (by omega) rfl)) hS0 rfl ?_   -- t67
      refine RunD.evg rfl rfl rfl (fun hg w' hS => (Ev.to (v' := .agg (pfV x).toArray) rfl (Ev.loadA (vs := pfV x) ag_68 (ifp hg) ((kt2.no hS).at0 hg0) hx3 rfl))) hS0 rfl ?_   -- t68
      refine RunD.evg rfl rfl rfl (fun hg w' hS => (Ev.pfneq (a := y) (b := x) (ifp hg) (ifp hg))) hS0 rfl ?_   -- t69
      refine RunD.ev rfl (fun w' hS => (Ev.pick_or rfl rfl rfl)) hS0 rfl rfl ?_   -- t70
      refine RunD.nil ?_
      refine At.then ?_
      refine W.cond rfl (fun hc70 => ?_) (fun hc70 => ?_)
      · have hst : useTo now old (j + 1) = (u1 + chP x.2.length, u2 + chP x.2.length, u3 + (x.1.length + 5), c) := by
          rw [useTo_succ hxj, ← hu]; unfold stepU; dsimp only; rw [hat, if_neg (by
            intro he
            have hcl2 := (List.getElem?_eq_some_iff.1 he).1
            have e := (hy hcl2).2.2.2.2.2
            rw [he] at e; cases e
            simp at hc70; omega)]
        -- region 11 (new1119.go:1487)
        refine W.region ?_
        refine Run.ev (Ev.move rfl) rfl rfl ?_   -- t71
        refine Run.ev (Ev.move rfl) rfl rfl ?_   -- t72
        refine Run.ev (Ev.addN (m := u2) (n := chP x.2.length) rfl rfl (by omega)) rfl rfl ?_   -- t73
        refine Run.ev (Ev.assign rfl) rfl rfl ?_   -- t7
        refine Run.nil ?_
        refine At.block ?_
        refine At.then ?_
        -- region 4 (new1119.go:1479)
        refine W.region ?_
        refine Run.ev (Ev.move rfl) rfl rfl ?_   -- t16
        refine Run.ev (Ev.addN (m := j) (n := 1) rfl rfl (by omega)) rfl rfl ?_   -- t17
        refine Run.ev (Ev.assign rfl) rfl rfl ?_   -- t10
        refine Run.nil ?_
        exact At.round (j + 1, u1 + chP x.2.length, u2 + chP x.2.length, u3 + (x.1.length + 5), c) (Env.sub_cons rfl (Env.sub_cons rfl (Env.sub_cons rfl (Env.sub_cons rfl (Env.sub_cons rfl (Env.sub_cons rfl (Env.sub_cons rfl (Env.sub_nil _)))))))) ⟨by show j + 1 ≤ _; omega, hst.symm, by show u1 + chP x.2.length ≤ (j + 1) * 2000; omega, by show u2 + chP x.2.length ≤ (j + 1) * 2000; omega, by show u3 + (x.1.length + 5) ≤ (j + 1) * 2000; omega, hcl, kt2.no hS0⟩ (by show now.length - (j + 1) < now.length - j; omega)
      · have hst : useTo now old (j + 1) = (u1 + chP x.2.length, u2, u3 + (x.1.length + 5), c) := by
          rw [Bool.or_eq_false_iff] at hc70
          have hcl2 : c < old.length := gne hc70.1 hcl
          have e := (hy hcl2).2.2.2.2.2
          have hyx : y = x := by simpa using hc70.2
          rw [useTo_succ hxj, ← hu]; unfold stepU; dsimp only; rw [hat, if_pos (by rw [e, hyx])]
        refine W.skip ?_
        refine At.block ?_
        refine At.then ?_
        -- region 4 (new1119.go:1479)
        refine W.region ?_
        refine Run.ev (Ev.move rfl) rfl rfl ?_   -- t16
        refine Run.ev (Ev.addN (m := j) (n := 1) rfl rfl (by omega)) rfl rfl ?_   -- t17
        refine Run.ev (Ev.assign rfl) rfl rfl ?_   -- t10
        refine Run.nil ?_
        clear hc70
        have hq2 : u2 ≤ (j + 1) * 2000 := Nat.le_trans hb2 (Nat.mul_le_mul_right _ (Nat.le_succ j))
        exact At.round (j + 1, u1 + chP x.2.length, u2, u3 + (x.1.length + 5), c) (Env.sub_cons rfl (Env.sub_cons rfl (Env.sub_cons rfl (Env.sub_cons rfl (Env.sub_cons rfl (Env.sub_cons rfl (Env.sub_cons rfl (Env.sub_nil _)))))))) ⟨by show j + 1 ≤ _; omega, hst.symm, by show u1 + chP x.2.length ≤ (j + 1) * 2000; omega, hq2, by show u3 + (x.1.length + 5) ≤ (j + 1) * 2000; omega, hcl, kt2.no hS0⟩ (by show now.length - (j + 1) < now.length - j; omega)
  · replace hc15 := of_decide_eq_false hc15
    obtain rfl : j = now.length := by omega
    have hch : chP u3 ≤ 10000000 := by unfold chP; omega
    refine W.exit ?_
    refine At.then_exit ?_
    refine At.then_exit ?_
    refine At.block_here ?_
    refine At.then ?_
    refine W.seq ?_
    -- region 12 (new1119.go:1490)
    refine W.region ?_
    refine Run.ev (Ev.move rfl) rfl rfl ?_   -- t74
    refine Run.ev (Ev.move rfl) rfl rfl ?_   -- t75
    refine Run.step rfl (Stp.callr en_34 rfl (pitChain_calls u3 w1 (by omega)) rfl ?_)   -- t76
    rintro v76 _ ⟨rfl, rfl⟩
    change Run _ _ _ _ ((76, natv (chP u3)) :: _) _
    refine Run.ev (Ev.addN (m := u1) (n := chP u3) rfl rfl (by omega)) rfl rfl ?_   -- t77
    refine Run.ev (Ev.move rfl) rfl rfl ?_   -- t78
    refine Run.ev (Ev.move rfl) rfl rfl ?_   -- t79
    refine Run.step rfl (Stp.callr en_34 rfl (pitChain_calls u3 _ (by omega)) rfl ?_)   -- t80
    rintro v80 _ ⟨rfl, rfl⟩
    change Run _ _ _ _ ((80, natv (chP u3)) :: _) _
    refine Run.ev (Ev.addN (m := u2) (n := chP u3) rfl rfl (by omega)) rfl rfl ?_   -- t81
    refine Run.ev (Ev.assign rfl) rfl rfl ?_   -- t4
    refine Run.ev (Ev.assign rfl) rfl rfl ?_   -- t5
    refine Run.nil ?_
    refine At.then ?_
    refine W.ret ?_
    exact At.ret2 rfl rfl rfl rfl ⟨by unfold pusedP; rw [← hu]; rfl, kt⟩

end Go.Proofs.YtlcgeepjekcfgaaGreat
