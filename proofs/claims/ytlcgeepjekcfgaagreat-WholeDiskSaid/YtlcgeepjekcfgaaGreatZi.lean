/- The pit: pitHolds. -/
import Derived.Test.YtlcgeepjekcfgaaGreatZh
namespace Go.Proofs.YtlcgeepjekcfgaaGreat
open Go.RowKit
set_option linter.unusedVariables false
set_option linter.unusedSimpArgs false


/-- What the pit holds is what the store has. -/
def holds (now : List (Bs × Bs)) (l : List PitF) : Prop := sortP (now.map (·.1)) = l.map (·.1) ∧ ∀ q ∈ l, mget now q.1 = some q.2
theorem holds.len {now : List (Bs × Bs)} {l : List PitF} (h : holds now l) : now.length = l.length := by
  have := congrArg List.length h.1
  simpa [sortP] using this

theorem pitHolds_calls (b : Nat) (t : Sto) (v1 : Value) (l : List PitF) (w : World) (h : StoR b t w) (h1 : Sl w 68 2 v1 l.length (l.flatMap pfV)) (hh : holds t.now l) (hk : ∀ p ∈ t.now, p.1.length ≤ 1000000) (hn : l.length ≤ 1000000) : Calls P 10 [.pointer (some ⟨b, 0, none⟩), v1].toArray w (Ret fun v w' => v = .bool true ∧ Kt No w w') := by
  obtain ⟨p1, c1, rfl, hc11, hc12⟩ := h1.len
  have hml := maxLen_le
  have hlen := hh.len
  refine enterW 55 Tryz.func10 rfl rfl rfl ?_
  refine W.seq ?_
  -- region 0 (new1119.go:1494)
  refine W.region ?_
  refine Run.ev (Ev.assign rfl) rfl rfl ?_   -- t4
  refine Run.nil ?_
  refine At.then ?_
  refine W.seq ?_
  -- region 1 (new1119.go:1495)
  refine W.region ?_
  refine Run.ev (Ev.move rfl) rfl rfl ?_   -- t9
  refine Run.step rfl (Stp.callr en_32 rfl (Names_calls b t w h hk (by omega)) rfl ?_)   -- t10
  rintro v10 w10 ⟨o10, k10⟩
  rw [hh.1] at o10
  obtain ⟨p5, c5, rfl, hc51, hc52⟩ := (Sl.of_own o10).len
  have hN := Sl.of_own o10
  refine Run.ev (Ev.assign rfl) rfl rfl ?_   -- t5
  refine Run.nil ?_
  refine At.then ?_
  refine W.seq ?_
  refine W.seq ?_
  -- region 2 (new1119.go:1496)
  refine W.region ?_
  refine Run.ev (Ev.move rfl) rfl rfl ?_   -- t11
  refine Run.ev (Ev.len rfl Tryz.underlying34) rfl rfl ?_   -- t12
  refine Run.ev (Ev.move rfl) rfl rfl ?_   -- t13
  refine Run.ev (Ev.len rfl Tryz.underlying27) rfl rfl ?_   -- t14
  refine Run.ev (Ev.neq (m := (t.now.length : Int)) (n := (l.length : Int)) (b := false) rfl rfl (by rw [hlen]; simp)) rfl rfl ?_   -- t15
  refine Run.nil ?_
  refine At.then ?_
  refine W.cond_f rfl ?_
  refine W.skip ?_
  refine At.then ?_
  refine W.seq ?_
  refine W.seq ?_
  -- region 4 (new1119.go:1499)
  refine W.region ?_
  refine Run.ev (Ev.assign rfl) rfl rfl ?_   -- t6
  refine Run.nil ?_
  refine At.then ?_
  refine W.block ?_
  refine W.loop (fun (j : Nat) => [(0, .pointer (some ⟨b, 0, none⟩)), (1, .slice p1 l.length c1), (5, .slice p5 t.now.length c5), (6, natv j)])
    (fun j w' => j ≤ l.length ∧ Kt No w10 w') (fun j => l.length - j) 0 ⟨Nat.zero_le _, Kt.refl _ _⟩ (Env.sub_cons rfl (Env.sub_cons rfl (Env.sub_cons rfl (Env.sub_cons rfl (Env.sub_nil _))))) ?_
  rintro j w1 ⟨hj, kt⟩
  refine W.seq ?_
  refine W.seq ?_
  -- region 5 (new1119.go:1499)
  refine W.region ?_
  refine Run.ev (Ev.move rfl) rfl rfl ?_   -- t16
  refine Run.ev (Ev.move rfl) rfl rfl ?_   -- t17
  refine Run.ev (Ev.len rfl Tryz.underlying27) rfl rfl ?_   -- t18
  refine Run.ev (Ev.lss rfl rfl rfl) rfl rfl ?_   -- t19
  refine Run.nil ?_
  refine At.then ?_
  refine W.cond rfl (fun hc19 => ?_) (fun hc19 => ?_)
  · replace hc19 := of_decide_eq_true hc19
    have hjl : j < l.length := by omega
    obtain ⟨g, off, cur, fr, f, hf⟩ := pit_may h1 j
    obtain ⟨rfl, hg0, hf1, hf2, hf3, hfj⟩ := hf hjl
    have hmg := hh.2 f (List.mem_of_getElem? hfj)
    have hnj : ((l.map (·.1)).map str)[j]? = some (str f.1) := by simp [hfj]
    obtain ⟨bn, on, rfl⟩ := hN.ptr (by omega)
    have ktw := k10.no kt
    refine W.skip ?_
    refine At.then ?_
    refine W.seq ?_
    refine W.block ?_
    refine W.seq ?_
    -- region 7 (new1119.go:1500)
    refine W.region ?_
    refine Run.ev (Ev.move rfl) rfl rfl ?_   -- t23
    refine Run.ev (Ev.move rfl) rfl rfl ?_   -- t24
    refine Run.ev (Ev.move rfl) rfl rfl ?_   -- t25
    refine Run.ev (Ev.indexAddr Tryz.underlying27 es_68 rfl rfl (by omega) rfl) rfl rfl ?_   -- t26
    refine Run.ev (Ev.fieldAddr fo_68_0 rfl rfl) rfl rfl ?_   -- t27
    refine Run.ev (Ev.load (v := str f.1) sc_9 rfl (cell_of (ktw.at0 hg0) hf1)) rfl rfl ?_   -- t28
    refine Run.step rfl (Stp.callr en_33 rfl (Read_calls b t f.1 w1 (h.kt0 ktw)) rfl ?_)   -- t29
    rintro v29 w29 ⟨rfl, k29⟩
    rw [hmg]
    dsimp only [Option.getD_some]
    replace kt := kt.no k29
    replace ktw := ktw.no k29
    have hNk := hN.kt0 kt
    refine Run.ev (Ev.move rfl) rfl rfl ?_   -- t22
    refine Run.ev (Ev.extract rfl rfl) rfl rfl ?_   -- t30
    refine Run.ev (Ev.extract rfl rfl) rfl rfl ?_   -- t31
    refine Run.ev (Ev.assign rfl) rfl rfl ?_   -- t7
    refine Run.ev (Ev.assign rfl) rfl rfl ?_   -- t8
    refine Run.nil ?_
    refine At.then ?_
    refine W.seq ?_
    -- region 8 DRAWS (new1119.go:1501)
    refine W.draw (fun w' => Kt No w29 w') [(0, true), (1, true), (2, true), (3, true), (4, true), (5, true), (6, true), (7, true), (8, true), (9, true), (10, true), (11, true), (12, true), (13, true), (14, true), (15, true), (16, true), (17, true), (18, true), (19, true), (20, true), (21, true), (22, true)] (by repeat (first | exact PQ.body | with_reducible apply PQ.then | with_reducible apply PQ.block)) (by kernel_rfl) (by kernel_rfl) (by kernel_rfl) rfl ?_
    have hS0 := (Kt.refl No w29).drew
    refine RunD.ev rfl (fun w' hS => (Ev.move rfl)) hS0 rfl rfl ?_   -- t32
    refine RunD.ev rfl (fun w' hS => (Ev.neq (m := 0) (n := 0) (b := false) rfl rfl rfl)) hS0 rfl rfl ?_   -- t33
    refine RunD.ev rfl (fun w' hS => (Ev.move rfl)) hS0 rfl rfl ?_   -- t34
    refine RunD.evg rfl rfl rfl (fun hg w' hS => (Ev.move rfl)) hS0 rfl ?_   -- t35
    refine RunD.evg rfl rfl rfl (fun hg w' hS => (Ev.move rfl)) hS0 rfl ?_   -- t36
    refine RunD.evg rfl rfl rfl (fun hg w' hS => (Ev.indexAddr Tryz.underlying34 es_9 (ifp hg) (ifp hg) (by omega) rfl)) hS0 rfl ?_   -- t37
    refine RunD.evg rfl rfl rfl (fun hg w' hS => (Ev.load (v := str f.1) sc_9 (ifp hg) ((hNk.kt0 hS).cell1 hnj (by simp)))) hS0 rfl ?_   -- t38
    refine RunD.evg rfl rfl rfl (fun hg w' hS => (Ev.move rfl)) hS0 rfl ?_   -- t39
    refine RunD.evg rfl rfl rfl (fun hg w' hS => (Ev.move rfl)) hS0 rfl ?_   -- t40
    refine RunD.evg rfl rfl rfl (fun hg w' hS => (Ev.indexAddr Tryz.underlying27 es_68 (ifp hg) (ifp hg) (by omega) rfl)) hS0 rfl ?_   -- t41
    refine RunD.evg rfl rfl rfl (fun hg w' hS => (Ev.fieldAddr fo_68_0 (ifp hg) rfl)) hS0 rfl ?_   -- t42
    refine RunD.evg rfl rfl rfl (fun hg w' hS => (Ev.load (v := str f.1) sc_9 (ifp hg) (cell_of ((ktw.no hS).at0 hg0) hf1))) hS0 rfl ?_   -- t43
    refine RunD.evg rfl rfl rfl (fun hg w' hS => (Ev.sneq (p := f.1) (q := f.1) (b := false) (ifp hg) (ifp hg) (by simp))) hS0 rfl ?_   -- t44
    refine RunD.ev rfl (fun w' hS => (Ev.pick_or rfl rfl rfl)) hS0 rfl rfl ?_   -- t45
    refine RunD.ev rfl (fun w' hS => (Ev.move rfl)) hS0 rfl rfl ?_   -- t46
    refine RunD.evg rfl rfl rfl (fun hg w' hS => (Ev.move rfl)) hS0 rfl ?_   -- t47
    refine RunD.evg rfl rfl rfl (fun hg w' hS => (Ev.move rfl)) hS0 rfl ?_   -- t48
    refine RunD.evg rfl rfl rfl (fun hg w' hS => (Ev.move rfl)) hS0 rfl ?_   -- t49
    refine RunD.evg rfl rfl rfl (fun hg w' hS => (Ev.indexAddr Tryz.underlying27 es_68 (ifp hg) (ifp hg) (by omega) rfl)) hS0 rfl ?_   -- t50
    refine RunD.evg rfl rfl rfl (fun hg w' hS => (Ev.fieldAddr fo_68_1 (ifp hg) rfl)) hS0 rfl ?_   -- t51
    refine RunD.evg rfl rfl rfl (fun hg w' hS => (Ev.load (v := str f.2) sc_9 (ifp hg) (cell_of ((ktw.no hS).at0 hg0) hf2))) hS0 rfl ?_   -- t52
    refine RunD.evg rfl rfl rfl (fun hg w' hS => (Ev.sneq (p := f.2) (q := f.2) (b := false) (ifp hg) (ifp hg) (by simp))) hS0 rfl ?_   -- t53
    refine RunD.ev rfl (fun w' hS => (Ev.pick_or rfl rfl rfl)) hS0 rfl rfl ?_   -- t54
    refine RunD.nil ?_
    refine At.then ?_
    refine W.cond_f rfl ?_
    refine W.skip ?_
    refine At.block ?_
    refine At.then ?_
    -- region 6 (new1119.go:1499)
    refine W.region ?_
    refine Run.ev (Ev.move rfl) rfl rfl ?_   -- t20
    refine Run.ev (Ev.addN (m := j) (n := 1) rfl rfl (by omega)) rfl rfl ?_   -- t21
    refine Run.ev (Ev.assign rfl) rfl rfl ?_   -- t6
    refine Run.nil ?_
    exact At.round (j + 1) (Env.sub_cons rfl (Env.sub_cons rfl (Env.sub_cons rfl (Env.sub_cons rfl (Env.sub_nil _))))) ⟨by omega, kt.no hS0⟩ (by omega)
  · replace hc19 := of_decide_eq_false hc19
    obtain rfl : j = l.length := by omega
    refine W.exit ?_
    refine At.then_exit ?_
    refine At.then_exit ?_
    refine At.block_here ?_
    refine At.then ?_
    refine W.seq ?_
    -- region 10 (new1119.go:1505)
    refine W.region ?_
    refine Run.ev (Ev.assign rfl) rfl rfl ?_   -- t4
    refine Run.nil ?_
    refine At.then ?_
    refine W.ret ?_
    exact At.ret1 rfl rfl rfl ⟨rfl, k10.no kt⟩

end Go.Proofs.YtlcgeepjekcfgaaGreat
