/- The pit: commit, full. -/
import Derived.Test.YtlcgeepjekcfgaaGreatZj
import Derived.Test.YtlcgeepjekcfgaaGreatZb
namespace Go.Proofs.YtlcgeepjekcfgaaGreat
open Go.RowKit
set_option linter.unusedVariables false
set_option linter.unusedSimpArgs false



theorem commitF_calls (sb pb n : Nat) (kv : Value) (t : Sto) (p : Pit) (w : World) (hs : StoR sb t w) (hp : PitR pb p w) (hb : Bnd p.nw) (hbo : Bnd p.old) (hnb : ∀ q ∈ t.now, q.1.length ≤ 16 ∧ q.2.length ≤ 4000) (hnl : t.now.length ≤ 30) (hk1 : t.k ≤ 1) (hg : t.g ≤ 1073741824) (hfs : ∀ q ∈ t.fs, ∀ k ∈ q.2.2.1, k < 256) (hpl : t.pages.length = 256) (h254 : (pusedP p.old []).1 ≤ 254) (hfull : (254 : Int) - ((pusedP p.old []).1 : Int) < ((pusedP p.nw p.old).2 : Int)) (hc : comP t.g (1 - t.k) t.now (forget t.fs) (freeP t) = none) (hfr : (freeP t).length = 254 - (pusedP p.old []).1) (hgen : t.g = p.gen) : Calls P 7 [.pointer (some ⟨pb, 0, none⟩), .pointer (some ⟨sb, 0, none⟩), natv n, kv].toArray w (Ret fun v w' => v = .bool true ∧ StoR sb t w' ∧ PitR pb p w' ∧ Kt No w w') := by
  refine enterW 179 Tryz.func7 rfl rfl rfl ?_
  refine W.seq ?_
  -- region 0 (new1119.go:1566)
  refine W.region ?_
  refine Run.ev (Ev.assign rfl) rfl rfl ?_   -- t8
  refine Run.nil ?_
  refine At.then ?_
  refine W.seq ?_
  -- region 1 (new1119.go:1567)
  refine W.region ?_
  refine Run.ev (Ev.move rfl) rfl rfl ?_   -- t21
  refine Run.ev (Ev.nilCheck rfl) rfl rfl ?_   -- t22
  refine Run.ev (Ev.fieldAddr fo_29_1 rfl rfl) rfl rfl ?_   -- t23
  refine Run.ev (Ev.load (v := p.ov) sc_27 rfl (cell_of hp.hb rfl)) rfl rfl ?_   -- t24
  refine Run.ev (Ev.assign rfl) rfl rfl ?_   -- t9
  refine Run.nil ?_
  refine At.then ?_
  refine W.seq ?_
  -- region 2 (new1119.go:1568)
  refine W.region ?_
  refine Run.ev (Ev.move rfl) rfl rfl ?_   -- t26
  refine Run.ev (Ev.nilCheck rfl) rfl rfl ?_   -- t27
  refine Run.ev (Ev.fieldAddr fo_29_1 rfl rfl) rfl rfl ?_   -- t28
  refine Run.ev (Ev.load (v := p.ov) sc_27 rfl (cell_of hp.hb rfl)) rfl rfl ?_   -- t29
  refine Run.step rfl (Stp.callr en_12 rfl (pitUsed_calls p.old [] _ _ w hp.ho ⟨by simp, _, _, rfl, Nat.le_refl _, Nat.zero_le _, .inl rfl⟩ (by have := hbo.1; omega) (by simp) (fun q hq => by have := hbo.2 q hq; omega)) rfl ?_)   -- t30
  rintro v30 w30 ⟨rfl, k30⟩
  replace hp := hp.kt0 k30
  replace hs := hs.kt0 k30
  have kt : Kt No w w30 := k30
  refine Run.ev (Ev.move rfl) rfl rfl ?_   -- t25
  refine Run.ev (Ev.extract rfl rfl) rfl rfl ?_   -- t31
  refine Run.ev (Ev.extract rfl rfl) rfl rfl ?_   -- t32
  refine Run.ev (Ev.assign rfl) rfl rfl ?_   -- t10
  refine Run.ev (Ev.assign rfl) rfl rfl ?_   -- t11
  refine Run.nil ?_
  refine At.then ?_
  refine W.seq ?_
  -- region 3 DRAWS (new1119.go:1569)
  refine W.draw (fun w' => Kt No w30 w') [(0, true), (1, true), (2, true), (3, true), (4, true), (5, true), (6, true), (7, true), (8, false), (9, true), (10, true), (11, true), (12, true), (13, true)] (by repeat (first | exact PQ.body | with_reducible apply PQ.then | with_reducible apply PQ.block)) (by kernel_rfl) (by kernel_rfl) (by kernel_rfl) rfl ?_
  have hS0 := (Kt.refl No w30).drew
  refine RunD.ev rfl (fun w' hS => (Ev.move rfl)) hS0 rfl rfl ?_   -- t34
  refine RunD.ev rfl (fun w' hS => (Ev.nilCheck rfl)) hS0 rfl rfl ?_   -- t35
  refine RunD.ev rfl (fun w' hS => (Ev.fieldAddr fo_29_0 rfl rfl)) hS0 rfl rfl ?_   -- t36
  refine RunD.ev rfl (fun w' hS => (Ev.load (v := p.nv) sc_27 rfl (cell_of (hS.at0 hp.hb) rfl))) hS0 rfl rfl ?_   -- t37
  refine RunD.ev rfl (fun w' hS => (Ev.move rfl)) hS0 rfl rfl ?_   -- t38
  refine RunD.ev rfl (fun w' hS => (Ev.nilCheck rfl)) hS0 rfl rfl ?_   -- t39
  refine RunD.ev rfl (fun w' hS => (Ev.fieldAddr fo_29_1 rfl rfl)) hS0 rfl rfl ?_   -- t40
  refine RunD.ev rfl (fun w' hS => (Ev.load (v := p.ov) sc_27 rfl (cell_of (hS.at0 hp.hb) rfl))) hS0 rfl rfl ?_   -- t41
  replace hp := hp.kt0 hS0
  replace hs := hs.kt0 hS0
  refine RunD.step rfl rfl (Stp.callr en_12 rfl (pitUsed_calls p.nw p.old _ _ _ hp.hn hp.ho (by have := hb.1; omega) (by have := hbo.1; omega) (fun q hq => by have := hb.2 q hq; omega)) rfl ?_)   -- t42
  rintro v42 w42 ⟨rfl, k42⟩
  replace hp := hp.kt0 k42
  replace hs := hs.kt0 k42
  replace kt := (kt.no hS0).no k42
  replace hS0 := hS0.no k42
  refine ⟨hS0, ?_⟩
  refine RunD.ev rfl (fun w' hS => (Ev.move rfl)) hS0 rfl rfl ?_   -- t33
  refine RunD.ev rfl (fun w' hS => (Ev.extract rfl rfl)) hS0 rfl rfl ?_   -- t43
  refine RunD.ev rfl (fun w' hS => (Ev.extract rfl rfl)) hS0 rfl rfl ?_   -- t44
  refine RunD.ev rfl (fun w' hS => (Ev.assign rfl)) hS0 rfl rfl ?_   -- t12
  refine RunD.ev rfl (fun w' hS => (Ev.assign rfl)) hS0 rfl rfl ?_   -- t13
  refine RunD.nil ?_
  refine At.then ?_
  refine W.seq ?_
  -- region 4 (new1119.go:1570)
  refine W.region ?_
  refine Run.ev (Ev.move rfl) rfl rfl ?_   -- t45
  refine Run.step rfl (Stp.callr en_9 rfl (Pages_calls sb t w42 hs) rfl ?_)   -- t46
  rintro v46 w46 ⟨pgb, pgc, rfl, hpgb, o46, k46⟩
  replace hp := hp.kt0 k46
  replace hs := hs.kt0 k46
  replace kt := kt.no k46
  refine Run.ev (Ev.assign rfl) rfl rfl ?_   -- t14
  refine Run.nil ?_
  refine At.then ?_
  refine W.seq ?_
  -- region 5 (new1119.go:1571)
  refine W.region ?_
  refine Run.ev (Ev.move rfl) rfl rfl ?_   -- t47
  refine Run.step rfl (Stp.callr en_29 rfl (Commit_calls sb t w46 hs hnb hnl hk1 hg hfs hpl) rfl ?_)   -- t48
  rintro v48 w48 (⟨rfl, _, hs48, k48⟩ | ⟨c, _, _, _, _, _, hc2, _⟩)
  rotate_left
  · rw [hc] at hc2; cases hc2
  replace hp := hp.kt0 k48
  replace kt := kt.no k48
  clear hs
  refine Run.ev (Ev.assign rfl) rfl rfl ?_   -- t15
  refine Run.nil ?_
  refine At.then ?_
  refine W.seq ?_
  refine W.seq ?_
  -- region 6 (new1119.go:1572)
  refine W.region ?_
  refine Run.ev (Ev.move rfl) rfl rfl ?_   -- t49
  refine Run.ev (Ev.move rfl) rfl rfl ?_   -- t50
  refine Run.ev (Ev.sub (m := 254) (n := ((pusedP p.old []).1 : Int)) rfl rfl (by omega)) rfl rfl ?_   -- t51
  refine Run.ev (Ev.gtr (m := ((pusedP p.nw p.old).2 : Int)) (n := (254 : Int) - ((pusedP p.old []).1 : Int)) (b := true) rfl rfl (decide_eq_true hfull)) rfl rfl ?_   -- t52
  refine Run.nil ?_
  refine At.then ?_
  refine W.cond_t rfl ?_
  refine W.seq ?_
  -- region 7 DRAWS (new1119.go:1573)
  refine W.draw (fun w' => Kt No w48 w') [(0, true), (1, true), (2, true), (3, true), (5, true), (6, true), (4, false), (7, true), (8, true), (9, true), (10, true), (12, true), (13, true), (14, true), (15, true), (11, false), (16, true), (17, true), (18, true)] (by repeat (first | exact PQ.body | with_reducible apply PQ.then | with_reducible apply PQ.block)) (by kernel_rfl) (by kernel_rfl) (by kernel_rfl) rfl ?_
  have hS0 := (Kt.refl No w48).drew
  refine RunD.ev rfl (fun w' hS => (Ev.move rfl)) hS0 rfl rfl ?_   -- t53
  refine RunD.ev rfl (fun w' hS => (Ev.eql (m := 2) (n := 2) (b := true) rfl rfl rfl)) hS0 rfl rfl ?_   -- t54
  refine RunD.ev rfl (fun w' hS => (Ev.move rfl)) hS0 rfl rfl ?_   -- t55
  refine RunD.ev rfl (fun w' hS => (Ev.move rfl)) hS0 rfl rfl ?_   -- t56
  refine RunD.ev rfl (fun w' hS => (Ev.move rfl)) hS0 rfl rfl ?_   -- t58
  refine RunD.ev rfl (fun w' hS => (Ev.sub (m := 254) (n := ((pusedP p.old []).1 : Int)) rfl rfl (by omega))) hS0 rfl rfl ?_   -- t59
  refine RunD.step rfl rfl (Stp.callr en_13 rfl (Free_calls sb t _ (hs48.kt0 hS0)) rfl ?_)   -- t57
  rintro v57 w57 ⟨rfl, k57⟩
  replace hS0 := hS0.no k57
  refine ⟨hS0, ?_⟩
  refine RunD.ev rfl (fun w' hS => (Ev.eql (m := ((freeP t).length : Int)) (n := (254 : Int) - ((pusedP p.old []).1 : Int)) (b := true) rfl rfl (decide_eq_true (by omega)))) hS0 rfl rfl ?_   -- t60
  refine RunD.ev rfl (fun w' hS => (Ev.pick_t rfl rfl)) hS0 rfl rfl ?_   -- t61
  refine RunD.ev rfl (fun w' hS => (Ev.move rfl)) hS0 rfl rfl ?_   -- t62
  refine RunD.ev rfl (fun w' hS => (Ev.move rfl)) hS0 rfl rfl ?_   -- t63
  refine RunD.ev rfl (fun w' hS => (Ev.move rfl)) hS0 rfl rfl ?_   -- t65
  refine RunD.ev rfl (fun w' hS => (Ev.nilCheck rfl)) hS0 rfl rfl ?_   -- t66
  refine RunD.ev rfl (fun w' hS => (Ev.fieldAddr fo_29_2 rfl rfl)) hS0 rfl rfl ?_   -- t67
  refine RunD.ev rfl (fun w' hS => (Ev.load (v := natv p.gen) sc_3 rfl (cell_of ((hS).at0 hp.hb) rfl))) hS0 rfl rfl ?_   -- t68
  refine RunD.step rfl rfl (Stp.callr en_11 rfl (Generation_calls sb t _ (hs48.kt0 hS0)) rfl ?_)   -- t64
  rintro v64 w64 ⟨rfl, e64⟩
  obtain rfl := e64.symm
  refine ⟨hS0, ?_⟩
  refine RunD.ev rfl (fun w' hS => (Ev.eql (m := (t.g : Int)) (n := (p.gen : Int)) (b := true) rfl rfl (decide_eq_true (by rw [hgen])))) hS0 rfl rfl ?_   -- t69
  refine RunD.ev rfl (fun w' hS => (Ev.pick_t rfl rfl)) hS0 rfl rfl ?_   -- t70
  refine RunD.ev rfl (fun w' hS => (Ev.assign rfl)) hS0 rfl rfl ?_   -- t8
  refine RunD.nil ?_
  refine At.then ?_
  refine W.ret ?_
  refine At.then_ret ?_
  exact At.ret1 rfl rfl rfl ⟨rfl, hs48.kt0 hS0, hp.kt0 hS0, kt.no hS0⟩

end Go.Proofs.YtlcgeepjekcfgaaGreat
