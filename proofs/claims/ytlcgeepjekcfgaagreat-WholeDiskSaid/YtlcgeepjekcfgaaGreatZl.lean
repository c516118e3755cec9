/- The pit: commit, not full. -/
import Derived.Test.YtlcgeepjekcfgaaGreatZk
namespace Go.Proofs.YtlcgeepjekcfgaaGreat
open Go.RowKit
set_option linter.unusedVariables false
set_option linter.unusedSimpArgs false


def freeC (dl : List Nat) (fs : List (Bs × (Bs × List Nat))) : List Nat := freeTo (dl ++ fs.flatMap fun q => q.2.2) 256
theorem freeP_C (t : Sto) : freeP t = freeC t.dl (forget t.fs) := by
  unfold freeP freeC usedP forget
  rw [List.flatMap_map]
def Sto.com (t : Sto) (c : Com) (nfs : List (Bs × FV)) (mb : Nat) (dv evv : Value) : Sto := { t with g := t.g + 1, d := c.dl.headD 0, s := c.dlen, k := 1 - t.k, dl := c.dl, fs := nfs, pages := applyP t.pages c.ev, ev := c.ev, mb := mb, dv := dv, evv := evv }
theorem PitR.ktc {pb sb : Nat} {p : Pit} {t : Sto} {w w' : World} (h : PitR pb p w) (hs : StoR sb t w) (hk : Kt (fun i => i = sb ∨ i = t.pb) w w') : PitR pb p w' := by
  obtain ⟨cur, hg, _⟩ := own_row hs.q.hpg
  refine h.kt hk ?_ ?_
  · rintro (e | e)
    · have := h.hb; rw [e, hs.q.hb] at this; simp at this
    · have := h.hb; rw [e, hg] at this; simp at this
  · rintro i (rfl | rfl)
    · exact ⟨_, hs.q.hb, by intro c f e; simp at e⟩
    · exact ⟨_, hg, by intro c f e; simp at e⟩

theorem commitO_calls (sb pb n : Nat) (kv : Value) (kept : List TornP) (c : Com) (l1 l2 : List EvP) (st : StP) (k : Nat) (t : Sto) (p : Pit) (w : World) (hs : StoR sb t w) (hp : PitR pb p w) (hb : Bnd p.nw) (hbo : Bnd p.old) (hnb : ∀ q ∈ t.now, q.1.length ≤ 16 ∧ q.2.length ≤ 4000) (hnl : t.now.length ≤ 30) (hk1 : t.k ≤ 1) (hg : t.g ≤ 1073741824) (hfs : ∀ q ∈ t.fs, ∀ k ∈ q.2.2.1, k < 256) (h64 : all64 t.pages) (h254 : (pusedP p.old []).1 ≤ 254) (hnf : ((pusedP p.nw p.old).2 : Int) ≤ (254 : Int) - ((pusedP p.old []).1 : Int)) (hu1 : (pusedP p.nw p.old).1 ≤ 254) (hc : comP t.g (1 - t.k) t.now (forget t.fs) (freeP t) = some c) (hfr : (freeC c.dl c.fs).length = 254 - (pusedP p.nw p.old).1) (hgen : t.g = p.gen) (hel : c.ev.length = (pusedP p.nw p.old).2 + 3) (hl12 : c.ev = l1 ++ l2) (hnm : n % (c.ev.length + 1) = l1.length) (hok : ∀ e ∈ l1 ++ l2, evOK e) (hkv : Sl w 25 2 kv kept.length (kept.flatMap tornV)) (hkk : ∀ t ∈ kept, tornOK t) (hcr : all64 (crashP t.pages l1 kept)) (hmt : mountP (crashP t.pages l1 kept) = some (st, k)) (hst : st.1.1 = p.gen) (hho : ∀ now : List (Bs × Bs), now.Perm (st.2.2.map fun q => (q.1, q.2.1)) → holds now p.old) (hsn : ∀ q ∈ st.2.2, q.1.length ≤ 1000000) (hlt : l1.length < c.ev.length) : Calls P 7 [.pointer (some ⟨pb, 0, none⟩), .pointer (some ⟨sb, 0, none⟩), natv n, kv].toArray w (Ret fun v w' => v = .bool true ∧ ∃ nfs mb dv evv, forget nfs = c.fs ∧ StoR sb (t.com c nfs mb dv evv) w' ∧ PitR pb { p with old := p.nw, ov := p.nv, gen := p.gen + 1 } w' ∧ Kt (fun i => i = sb ∨ i = t.pb ∨ i = pb) w w') := by
  refine enterW 179 Tryz.func7 rfl rfl rfl ?_
  refine W.seq ?_
  -- region 0 (new1119.go:1566)
  refine W.region ?_
  refine Run.ev (Ev.assign rfl) rfl rfl ?_   -- t8
  refine Run.nil ?_
  refine At.then ?_
  refine W.seq ?_
  -- region 1 (new1119.go:1567)
  refine W.region ?_
  refine Run.ev (Ev.move rfl) rfl rfl ?_   -- t21
  refine Run.ev (Ev.nilCheck rfl) rfl rfl ?_   -- t22
  refine Run.ev (Ev.fieldAddr fo_29_1 rfl rfl) rfl rfl ?_   -- t23
  refine Run.ev (Ev.load (v := p.ov) sc_27 rfl (cell_of hp.hb rfl)) rfl rfl ?_   -- t24
  refine Run.ev (Ev.assign rfl) rfl rfl ?_   -- t9
  refine Run.nil ?_
  refine At.then ?_
  refine W.seq ?_
  -- region 2 (new1119.go:1568)
  refine W.region ?_
  refine Run.ev (Ev.move rfl) rfl rfl ?_   -- t26
  refine Run.ev (Ev.nilCheck rfl) rfl rfl ?_   -- t27
  refine Run.ev (Ev.fieldAddr fo_29_1 rfl rfl) rfl rfl ?_   -- t28
  refine Run.ev (Ev.load (v := p.ov) sc_27 rfl (cell_of hp.hb rfl)) rfl rfl ?_   -- t29
  refine Run.step rfl (Stp.callr en_12 rfl (pitUsed_calls p.old [] _ _ w hp.ho ⟨by simp, _, _, rfl, Nat.le_refl _, Nat.zero_le _, .inl rfl⟩ (by have := hbo.1; omega) (by simp) (fun q hq => by have := hbo.2 q hq; omega)) rfl ?_)   -- t30
  rintro v30 w30 ⟨rfl, k30⟩
  replace hp := hp.kt0 k30
  replace hs := hs.kt0 k30
  have kt : Kt No w w30 := k30
  refine Run.ev (Ev.move rfl) rfl rfl ?_   -- t25
  refine Run.ev (Ev.extract rfl rfl) rfl rfl ?_   -- t31
  refine Run.ev (Ev.extract rfl rfl) rfl rfl ?_   -- t32
  refine Run.ev (Ev.assign rfl) rfl rfl ?_   -- t10
  refine Run.ev (Ev.assign rfl) rfl rfl ?_   -- t11
  refine Run.nil ?_
  refine At.then ?_
  refine W.seq ?_
  -- region 3 DRAWS (new1119.go:1569)
  refine W.draw (fun w' => Kt No w30 w') [(0, true), (1, true), (2, true), (3, true), (4, true), (5, true), (6, true), (7, true), (8, false), (9, true), (10, true), (11, true), (12, true), (13, true)] (by repeat (first | exact PQ.body | with_reducible apply PQ.then | with_reducible apply PQ.block)) (by kernel_rfl) (by kernel_rfl) (by kernel_rfl) rfl ?_
  have hS0 := (Kt.refl No w30).drew
  refine RunD.ev rfl (fun w' hS => (Ev.move rfl)) hS0 rfl rfl ?_   -- t34
  refine RunD.ev rfl (fun w' hS => (Ev.nilCheck rfl)) hS0 rfl rfl ?_   -- t35
  refine RunD.ev rfl (fun w' hS => (Ev.fieldAddr fo_29_0 rfl rfl)) hS0 rfl rfl ?_   -- t36
  refine RunD.ev rfl (fun w' hS => (Ev.load (v := p.nv) sc_27 rfl (cell_of (hS.at0 hp.hb) rfl))) hS0 rfl rfl ?_   -- t37
  refine RunD.ev rfl (fun w' hS => (Ev.move rfl)) hS0 rfl rfl ?_   -- t38
  refine RunD.ev rfl (fun w' hS => (Ev.nilCheck rfl)) hS0 rfl rfl ?_   -- t39
  refine RunD.ev rfl (fun w' hS => (Ev.fieldAddr fo_29_1 rfl rfl)) hS0 rfl rfl ?_   -- t40
  refine RunD.ev rfl (fun w' hS => (Ev.load (v := p.ov) sc_27 rfl (cell_of (hS.at0 hp.hb) rfl))) hS0 rfl rfl ?_   -- t41
  replace hp := hp.kt0 hS0
  replace hs := hs.kt0 hS0
  refine RunD.step rfl rfl (Stp.callr en_12 rfl (pitUsed_calls p.nw p.old _ _ _ hp.hn hp.ho (by have := hb.1; omega) (by have := hbo.1; omega) (fun q hq => by have := hb.2 q hq; omega)) rfl ?_)   -- t42
  rintro v42 w42 ⟨rfl, k42⟩
  replace hp := hp.kt0 k42
  replace hs := hs.kt0 k42
  replace kt := (kt.no hS0).no k42
  replace hS0 := hS0.no k42
  have hl1 := blk_lt hs.q.hb
  have hl2 := own_lt (pb := t.pb) hs.q.hpg
  refine ⟨hS0, ?_⟩
  refine RunD.ev rfl (fun w' hS => (Ev.move rfl)) hS0 rfl rfl ?_   -- t33
  refine RunD.ev rfl (fun w' hS => (Ev.extract rfl rfl)) hS0 rfl rfl ?_   -- t43
  refine RunD.ev rfl (fun w' hS => (Ev.extract rfl rfl)) hS0 rfl rfl ?_   -- t44
  refine RunD.ev rfl (fun w' hS => (Ev.assign rfl)) hS0 rfl rfl ?_   -- t12
  refine RunD.ev rfl (fun w' hS => (Ev.assign rfl)) hS0 rfl rfl ?_   -- t13
  refine RunD.nil ?_
  refine At.then ?_
  refine W.seq ?_
  -- region 4 (new1119.go:1570)
  refine W.region ?_
  refine Run.ev (Ev.move rfl) rfl rfl ?_   -- t45
  refine Run.step rfl (Stp.callr en_9 rfl (Pages_calls sb t w42 hs) rfl ?_)   -- t46
  rintro v46 w46 ⟨pgb, pgc, rfl, hpgb, o46, k46⟩
  replace hp := hp.kt0 k46
  replace hs := hs.kt0 k46
  replace kt := kt.no k46
  have hkw := hkv.kt0 kt
  refine Run.ev (Ev.assign rfl) rfl rfl ?_   -- t14
  refine Run.nil ?_
  refine At.then ?_
  refine W.seq ?_
  -- region 5 (new1119.go:1571)
  refine W.region ?_
  refine Run.ev (Ev.move rfl) rfl rfl ?_   -- t47
  refine Run.step rfl (Stp.callr en_29 rfl (Commit_calls sb t w46 hs hnb hnl hk1 hg hfs h64.1) rfl ?_)   -- t48
  rintro v48 w48 (⟨rfl, hc2, _⟩ | ⟨c2, nfs, mb, dv, evv, rfl, hc2, hfg, hmb, hs48, k48⟩)
  · rw [hc] at hc2; cases hc2
  rw [hc] at hc2
  cases hc2
  replace hs48 : StoR sb (t.com c nfs mb dv evv) w48 := hs48
  have hP := (Sl.of_own o46).kt k48 (fun i hi h0 hS => by cases hi; rcases hS with e | e; have e2 : pgb = sb := e; omega; have e2 : pgb = t.pb := e; omega)
  obtain ⟨curp, hgp, _⟩ := own_row (pb := t.pb) hs.q.hpg
  replace hkw := hkw.kt k48 (fun i hi h0 hS => by rcases hS with rfl | rfl; exact hkw.ne hs.q.hb (by intro c f e; simp at e) hi h0; exact hkw.ne hgp (by intro c f e; simp at e) hi h0)
  replace hp := hp.ktc hs k48
  have kt2 : Kt (fun i => i = sb ∨ i = t.pb ∨ i = pb) w w48 := (kt.mono (fun _ _ h => h.elim)).trans k48 (fun i _ h => h.imp id .inl)
  clear hs kt
  refine Run.ev (Ev.assign rfl) rfl rfl ?_   -- t15
  refine Run.nil ?_
  refine At.then ?_
  refine W.seq ?_
  refine W.seq ?_
  -- region 6 (new1119.go:1572)
  refine W.region ?_
  refine Run.ev (Ev.move rfl) rfl rfl ?_   -- t49
  refine Run.ev (Ev.move rfl) rfl rfl ?_   -- t50
  refine Run.ev (Ev.sub (m := 254) (n := ((pusedP p.old []).1 : Int)) rfl rfl (by omega)) rfl rfl ?_   -- t51
  refine Run.ev (Ev.gtr (m := ((pusedP p.nw p.old).2 : Int)) (n := (254 : Int) - ((pusedP p.old []).1 : Int)) (b := false) rfl rfl (decide_eq_false (by omega))) rfl rfl ?_   -- t52
  refine Run.nil ?_
  refine At.then ?_
  refine W.cond_f rfl ?_
  refine W.skip ?_
  refine At.then ?_
  refine W.seq ?_
  -- region 8 DRAWS (new1119.go:1575)
  refine W.drawG (fun w' => ∃ ov', w'.heap[pb]? = some (.cells #[p.nv, ov', natv p.gen] 29 (0, 0))) (fun j => Nat.beq j 16) [(0, true), (1, true), (2, true), (3, true), (4, true), (5, true), (6, true), (7, true), (8, true), (9, true), (10, true), (11, true), (12, true), (13, false), (14, true), (15, true), (16, false)] (by repeat (first | exact PQ.body | with_reducible apply PQ.then | with_reducible apply PQ.block)) (by kernel_rfl) (by kernel_rfl) (by kernel_rfl) rfl ?_
  have hS0 : ∃ ov', w48.drew.heap[pb]? = some (.cells #[p.nv, ov', natv p.gen] 29 (0, 0)) := ⟨_, hp.hb⟩
  refine RunG.pure rfl rfl (fun w' => (Ev.move rfl)) (fun _ => hS0) rfl rfl ?_   -- t71
  refine RunG.pure rfl rfl (fun w' => (Ev.move rfl)) (fun _ => hS0) rfl rfl ?_   -- t72
  refine RunG.pure rfl rfl (fun w' => (Ev.move rfl)) (fun _ => hS0) rfl rfl ?_   -- t73
  refine RunG.pure rfl rfl (fun w' => (Ev.nilCheck rfl)) (fun _ => hS0) rfl rfl ?_   -- t74
  refine RunG.pure rfl rfl (fun w' => (Ev.fieldAddr fo_29_0 rfl rfl)) (fun _ => hS0) rfl rfl ?_   -- t75
  refine RunG.ev rfl rfl (by kernel_rfl) (fun w' hS => (hS.elim fun _ h => Ev.load (v := p.nv) sc_27 rfl (cell_of h rfl))) hS0 rfl rfl ?_   -- t76
  refine RunG.pure rfl rfl (fun w' => (Ev.move rfl)) (fun _ => hS0) rfl rfl ?_   -- t77
  refine RunG.pure rfl rfl (fun w' => (Ev.nilCheck rfl)) (fun _ => hS0) rfl rfl ?_   -- t78
  refine RunG.pure rfl rfl (fun w' => (Ev.fieldAddr fo_29_2 rfl rfl)) (fun _ => hS0) rfl rfl ?_   -- t79
  refine RunG.ev rfl rfl (by kernel_rfl) (fun w' hS => (hS.elim fun _ h => Ev.load (v := natv p.gen) sc_3 rfl (cell_of h rfl))) hS0 rfl rfl ?_   -- t80
  refine RunG.pure rfl rfl (fun w' => (Ev.addN (m := p.gen) (n := 1) rfl rfl (by omega))) (fun _ => hS0) rfl rfl ?_   -- t81
  refine RunG.pure rfl rfl (fun w' => (Ev.nilCheck rfl)) (fun _ => hS0) rfl rfl ?_   -- t82
  refine RunG.pure rfl rfl (fun w' => (Ev.fieldAddr fo_29_1 rfl rfl)) (fun _ => hS0) rfl rfl ?_   -- t83
  refine RunG.step rfl rfl (Stp.store (w := w48.drew) sc_27 sz_27 rfl rfl hp.hn.one hp.hb (by simp) ?_)   -- tNone
  intro wS kS bS zS
  replace hS0 : ∃ ov', wS.heap[pb]? = some (.cells #[p.nv, ov', natv p.gen] 29 (0, 0)) := ⟨p.nv, bS⟩
  replace bS : wS.heap[pb]? = some (.cells #[p.nv, p.nv, natv p.gen] 29 (0, 0)) := bS
  refine ⟨fun _ => hS0, ?_⟩
  refine RunG.pure rfl rfl (fun w' => (Ev.nilCheck rfl)) (fun _ => hS0) rfl rfl ?_   -- t84
  refine RunG.pure rfl rfl (fun w' => (Ev.fieldAddr fo_29_2 rfl rfl)) (fun _ => hS0) rfl rfl ?_   -- t85
  refine RunG.step rfl rfl (Stp.store sc_3 sz_3 rfl rfl rfl bS (by simp) ?_)   -- tNone
  intro wT kT bT zT
  replace bT : wT.heap[pb]? = some (.cells #[p.nv, p.nv, natv (p.gen + 1)] 29 (0, 0)) := bT
  have kp : Kt (fun i => i = pb) w48 wT := ((((Kt.refl No w48).drew).mono (fun _ _ h => h.elim)).trans kS (fun i _ h => h)).trans kT (fun i _ h => h)
  replace hs48 := hs48.ktp29 hp kp
  replace hP := hP.kt kp (fun i hi h0 e => by subst e; exact hP.ne hp.hb (by intro c f e; simp at e) hi h0)
  replace hkw := hkw.kt kp (fun i hi h0 e => by subst e; exact hkw.ne hp.hb (by intro c f e; simp at e) hi h0)
  have hnT := hp.hn.kt kp (fun i hi h0 e => by subst e; exact hp.hn.ne hp.hb (by intro c f e; simp at e) hi h0)
  have hoT := hp.ho.kt kp (fun i hi h0 e => by subst e; exact hp.ho.ne hp.hb (by intro c f e; simp at e) hi h0)
  replace kt2 := kt2.trans kp (fun i _ h => .inr (.inr h))
  have hp2 : PitR pb { p with old := p.nw, ov := p.nv, gen := p.gen + 1 } wT := ⟨bT, hnT, hnT⟩
  clear hp hnT hS0 kS kT kp bS
  refine ⟨(fun h => by cases h), ?_⟩
  refine RunG.nil ?_
  refine At.then ?_
  refine W.seq ?_
  -- region 9 (new1119.go:1576)
  refine W.region ?_
  refine Run.ev (Ev.move rfl) rfl rfl ?_   -- t86
  refine Run.step rfl (Stp.callr en_30 rfl (Events_calls sb (t.com c nfs mb dv evv) wT hs48 (by show c.ev.length ≤ 1000000; omega)) rfl ?_)   -- t87
  rintro v87 w87 ⟨o87, k87, n87⟩
  replace o87 : w87.ownsRow 0 118 2 v87 c.ev.length (evsV c.ev) := o87
  obtain ⟨pe, ce, rfl, hce1, hce2⟩ := (Sl.of_own o87).len
  have kw : Kt No wT w87 := k87
  refine Run.ev (Ev.assign rfl) rfl rfl ?_   -- t16
  refine Run.nil ?_
  refine At.then ?_
  refine W.seq ?_
  refine W.seq ?_
  -- region 10 DRAWS (new1119.go:1577)
  refine W.draw (fun w' => Kt No w87 w') [(0, true), (1, true), (2, true), (3, true), (4, true), (5, true), (6, true), (7, true), (8, true), (9, true), (10, true), (12, true), (13, true), (11, false), (14, true), (15, true), (16, true), (17, true), (19, true), (20, true), (21, true), (22, true), (18, false), (23, true), (24, true)] (by repeat (first | exact PQ.body | with_reducible apply PQ.then | with_reducible apply PQ.block)) (by kernel_rfl) (by kernel_rfl) (by kernel_rfl) rfl ?_
  have hS0 := (Kt.refl No w87).drew
  refine RunD.ev rfl (fun w' hS => (Ev.move rfl)) hS0 rfl rfl ?_   -- t88
  refine RunD.ev rfl (fun w' hS => (Ev.neq (m := 0) (n := 0) (b := false) rfl rfl rfl)) hS0 rfl rfl ?_   -- t89
  refine RunD.ev rfl (fun w' hS => (Ev.move rfl)) hS0 rfl rfl ?_   -- t90
  refine RunD.ev rfl (fun w' hS => (Ev.move rfl)) hS0 rfl rfl ?_   -- t91
  refine RunD.ev rfl (fun w' hS => (Ev.len rfl Tryz.underlying55)) hS0 rfl rfl ?_   -- t92
  refine RunD.ev rfl (fun w' hS => (Ev.move rfl)) hS0 rfl rfl ?_   -- t93
  refine RunD.ev rfl (fun w' hS => (Ev.addN (m := (pusedP p.nw p.old).2) (n := 3) rfl rfl (by omega))) hS0 rfl rfl ?_   -- t94
  refine RunD.ev rfl (fun w' hS => (Ev.neq (m := (c.ev.length : Int)) (n := (((pusedP p.nw p.old).2 + 3 : Nat) : Int)) (b := false) rfl rfl (by rw [hel]; simp))) hS0 rfl rfl ?_   -- t95
  refine RunD.ev rfl (fun w' hS => (Ev.pick_f rfl rfl)) hS0 rfl rfl ?_   -- t96
  refine RunD.ev rfl (fun w' hS => (Ev.move rfl)) hS0 rfl rfl ?_   -- t97
  refine RunD.ev rfl (fun w' hS => (Ev.move rfl)) hS0 rfl rfl ?_   -- t98
  refine RunD.ev rfl (fun w' hS => (Ev.move rfl)) hS0 rfl rfl ?_   -- t100
  refine RunD.ev rfl (fun w' hS => (Ev.sub (m := 254) (n := ((pusedP p.nw p.old).1 : Int)) rfl rfl (by omega))) hS0 rfl rfl ?_   -- t101
  refine RunD.step rfl rfl (Stp.callr en_13 rfl (Free_calls sb (t.com c nfs mb dv evv) _ (hs48.kt0 (kw.no hS0))) rfl ?_)   -- t99
  rintro v99 w99 ⟨rfl, k99⟩
  replace hS0 := hS0.no k99
  refine ⟨hS0, ?_⟩
  refine RunD.ev rfl (fun w' hS => (Ev.neq (m := ((freeP (t.com c nfs mb dv evv)).length : Int)) (n := (254 : Int) - ((pusedP p.nw p.old).1 : Int)) (b := false) rfl rfl (by
    have e : (freeP (t.com c nfs mb dv evv)).length = 254 - (pusedP p.nw p.old).1 := by rw [freeP_C]; show (freeC c.dl (forget nfs)).length = _; rw [hfg]; exact hfr
    rw [decide_eq_true (by omega)]; rfl))) hS0 rfl rfl ?_   -- t102
  refine RunD.ev rfl (fun w' hS => (Ev.pick_f rfl rfl)) hS0 rfl rfl ?_   -- t103
  refine RunD.ev rfl (fun w' hS => (Ev.move rfl)) hS0 rfl rfl ?_   -- t104
  refine RunD.ev rfl (fun w' hS => (Ev.move rfl)) hS0 rfl rfl ?_   -- t105
  refine RunD.ev rfl (fun w' hS => (Ev.move rfl)) hS0 rfl rfl ?_   -- t107
  refine RunD.ev rfl (fun w' hS => (Ev.nilCheck rfl)) hS0 rfl rfl ?_   -- t108
  refine RunD.ev rfl (fun w' hS => (Ev.fieldAddr fo_29_2 rfl rfl)) hS0 rfl rfl ?_   -- t109
  refine RunD.ev rfl (fun w' hS => (Ev.load (v := natv (p.gen + 1)) sc_3 rfl (cell_of ((kw.no hS).at0 hp2.hb) rfl))) hS0 rfl rfl ?_   -- t110
  refine RunD.step rfl rfl (Stp.callr en_11 rfl (Generation_calls sb (t.com c nfs mb dv evv) _ (hs48.kt0 (kw.no hS0))) rfl ?_)   -- t106
  rintro v106 w106 ⟨rfl, e106⟩
  obtain rfl := e106.symm
  refine ⟨hS0, ?_⟩
  refine RunD.ev rfl (fun w' hS => (Ev.neq (m := ((t.g + 1 : Nat) : Int)) (n := ((p.gen + 1 : Nat) : Int)) (b := false) rfl rfl (by rw [hgen]; simp))) hS0 rfl rfl ?_   -- t111
  refine RunD.ev rfl (fun w' hS => (Ev.pick_f rfl rfl)) hS0 rfl rfl ?_   -- t112
  refine RunD.nil ?_
  replace kw := kw.no hS0
  refine At.then ?_
  refine W.cond_f rfl ?_
  refine W.skip ?_
  refine At.then ?_
  refine W.seq ?_
  -- region 12 (new1119.go:1580)
  refine W.region ?_
  refine Run.ev (Ev.move rfl) rfl rfl ?_   -- t113
  refine Run.ev (Ev.move rfl) rfl rfl ?_   -- t114
  refine Run.ev (Ev.len rfl Tryz.underlying55) rfl rfl ?_   -- t115
  refine Run.ev (Ev.addN (m := c.ev.length) (n := 1) rfl rfl (by omega)) rfl rfl ?_   -- t116
  refine Run.ev (Ev.to (v' := natv l1.length) (by rw [← hnm]; rfl) (Ev.rem (m := (n : Int)) (n := ((c.ev.length + 1 : Nat) : Int)) rfl rfl (by omega))) rfl rfl ?_   -- t117
  refine Run.ev (Ev.assign rfl) rfl rfl ?_   -- t2
  refine Run.nil ?_
  refine At.then ?_
  refine W.seq ?_
  -- region 13 (new1119.go:1581)
  refine W.region ?_
  refine Run.ev (Ev.move rfl) rfl rfl ?_   -- t119
  refine Run.ev (Ev.move rfl) rfl rfl ?_   -- t120
  refine Run.ev (Ev.move rfl) rfl rfl ?_   -- t121
  refine Run.ev (Ev.move rfl) rfl rfl ?_   -- t122
  refine Run.step rfl (Stp.callr en_31 rfl (Crash_calls _ _ kv t.pages l1 l2 kept w99 (hP.kt0 kw) h64 (by rw [← hl12]; exact Sl.of_own (hS0.own0 o87)) hok (hkw.kt0 kw) hkk (by rw [← hl12]; omega)) rfl ?_)   -- t123
  rintro v123 w123 ⟨qb, qc, rfl, hqb, o123, k123⟩
  replace kw := kw.no k123
  refine Run.ev (Ev.move rfl) rfl rfl ?_   -- t118
  refine Run.ev (Ev.extract rfl rfl) rfl rfl ?_   -- t124
  refine Run.ev (Ev.extract rfl rfl) rfl rfl ?_   -- t125
  refine Run.ev (Ev.assign rfl) rfl rfl ?_   -- t17
  refine Run.ev (Ev.assign rfl) rfl rfl ?_   -- t15
  refine Run.nil ?_
  refine At.then ?_
  refine W.seq ?_
  refine W.seq ?_
  -- region 14 (new1119.go:1582)
  refine W.region ?_
  refine Run.ev (Ev.move rfl) rfl rfl ?_   -- t126
  refine Run.ev (Ev.neq (m := 0) (n := 0) (b := false) rfl rfl rfl) rfl rfl ?_   -- t127
  refine Run.nil ?_
  refine At.then ?_
  refine W.cond_f rfl ?_
  refine W.skip ?_
  refine At.then ?_
  refine W.seq ?_
  -- region 16 (new1119.go:1585)
  refine W.region ?_
  refine Run.ev (Ev.move rfl) rfl rfl ?_   -- t129
  refine Run.step rfl (Stp.callr en_4 rfl (Mount_calls _ (crashP t.pages l1 kept) w123 (Sl.of_own o123) hcr) rfl ?_)   -- t130
  rintro v130 w130 ⟨k130, (⟨hm, _⟩ | ⟨st2, kk2, sb2, t2, hm, rfl, hsb2, _, _, _, hs2, hst2, _, _, hf2, _, hnow2, _⟩)⟩
  · rw [hmt] at hm; cases hm
  rw [hmt] at hm
  cases hm
  replace kw := kw.no k130
  refine Run.ev (Ev.move rfl) rfl rfl ?_   -- t128
  refine Run.ev (Ev.extract rfl rfl) rfl rfl ?_   -- t131
  refine Run.ev (Ev.extract rfl rfl) rfl rfl ?_   -- t132
  refine Run.ev (Ev.assign rfl) rfl rfl ?_   -- t18
  refine Run.ev (Ev.assign rfl) rfl rfl ?_   -- t15
  refine Run.nil ?_
  refine At.then ?_
  refine W.seq ?_
  refine W.seq ?_
  -- region 17 (new1119.go:1586)
  refine W.region ?_
  refine Run.ev (Ev.move rfl) rfl rfl ?_   -- t133
  refine Run.ev (Ev.neq (m := 0) (n := 0) (b := false) rfl rfl rfl) rfl rfl ?_   -- t134
  refine Run.nil ?_
  refine At.then ?_
  refine W.cond_f rfl ?_
  refine W.skip ?_
  refine At.then ?_
  refine W.seq ?_
  -- region 19 DRAWS (new1119.go:1589)
  refine W.draw (fun w' => Kt No w130 w') [(0, true), (2, true), (3, true), (4, true), (5, true), (6, true), (13, true), (15, true), (16, true), (17, true), (18, true), (1, false), (7, true), (8, true), (9, true), (10, true), (11, false), (12, true), (14, false), (19, true), (20, true), (21, true), (22, true), (23, true), (24, true), (25, true), (26, false), (27, true), (28, true), (29, true)] (by repeat (first | exact PQ.body | with_reducible apply PQ.then | with_reducible apply PQ.block)) (by kernel_rfl) (by kernel_rfl) (by kernel_rfl) rfl ?_
  have hS0 := (Kt.refl No w130).drew
  have hg2 : t2.g = st.1.1 := congrArg (·.1) hst2
  refine RunD.ev rfl (fun w' hS => (Ev.move rfl)) hS0 rfl rfl ?_   -- t135
  refine RunD.ev rfl (fun w' hS => (Ev.move rfl)) hS0 rfl rfl ?_   -- t137
  refine RunD.ev rfl (fun w' hS => (Ev.nilCheck rfl)) hS0 rfl rfl ?_   -- t138
  refine RunD.ev rfl (fun w' hS => (Ev.fieldAddr fo_29_2 rfl rfl)) hS0 rfl rfl ?_   -- t139
  refine RunD.ev rfl (fun w' hS => (Ev.load (v := natv (p.gen + 1)) sc_3 rfl (cell_of ((kw.no hS).at0 hp2.hb) rfl))) hS0 rfl rfl ?_   -- t140
  refine RunD.ev rfl (fun w' hS => (Ev.sub (m := ((p.gen + 1 : Nat) : Int)) (n := 1) rfl rfl (by omega))) hS0 rfl rfl ?_   -- t141
  refine RunD.ev rfl (fun w' hS => (Ev.move rfl)) hS0 rfl rfl ?_   -- t148
  refine RunD.ev rfl (fun w' hS => (Ev.move rfl)) hS0 rfl rfl ?_   -- t150
  refine RunD.ev rfl (fun w' hS => (Ev.nilCheck rfl)) hS0 rfl rfl ?_   -- t151
  refine RunD.ev rfl (fun w' hS => (Ev.fieldAddr fo_29_2 rfl rfl)) hS0 rfl rfl ?_   -- t152
  refine RunD.ev rfl (fun w' hS => (Ev.load (v := natv (p.gen + 1)) sc_3 rfl (cell_of ((kw.no hS).at0 hp2.hb) rfl))) hS0 rfl rfl ?_   -- t153
  refine RunD.step rfl rfl (Stp.callr en_11 rfl (Generation_calls sb2 t2 _ (hs2.kt0 hS0)) rfl ?_)   -- t136
  rintro v136 w136 ⟨rfl, e136⟩
  subst e136
  refine ⟨hS0, ?_⟩
  refine RunD.ev rfl (fun w' hS => (Ev.eql (m := (t2.g : Int)) (n := ((p.gen + 1 : Nat) : Int) - 1) (b := true) rfl rfl (decide_eq_true (by omega)))) hS0 rfl rfl ?_   -- t142
  refine RunD.ev rfl (fun w' hS => (Ev.move rfl)) hS0 rfl rfl ?_   -- t143
  refine RunD.ev rfl (fun w' hS => (Ev.move rfl)) hS0 rfl rfl ?_   -- t144
  refine RunD.ev rfl (fun w' hS => (Ev.move rfl)) hS0 rfl rfl ?_   -- t145
  refine RunD.step rfl rfl (Stp.callr en_10 rfl (pitHolds_calls sb2 t2 p.ov p.old _ (hs2.kt0 hS0) (hoT.kt0 (kw.no hS0)) (hho _ hnow2) (fun q hq => by
    have h := hnow2.mem_iff.1 hq
    obtain ⟨r, hr, rfl⟩ := List.mem_map.1 h
    exact hsn r hr) (by have := hbo.1; omega)) rfl ?_)   -- t146
  rintro v146 w146 ⟨rfl, k146⟩
  replace hS0 := hS0.no k146
  refine ⟨hS0, ?_⟩
  refine RunD.ev rfl (fun w' hS => (Ev.pick_t rfl rfl)) hS0 rfl rfl ?_   -- t147
  refine RunD.step rfl rfl (Stp.callr en_11 rfl (Generation_calls sb2 t2 _ (hs2.kt0 hS0)) rfl ?_)   -- t149
  rintro v149 w149 ⟨rfl, e149⟩
  subst e149
  refine ⟨hS0, ?_⟩
  refine RunD.ev rfl (fun w' hS => (Ev.eql (m := (t2.g : Int)) (n := ((p.gen + 1 : Nat) : Int)) (b := false) rfl rfl (decide_eq_false (by omega)))) hS0 rfl rfl ?_   -- t154
  refine RunD.ev rfl (fun w' hS => (Ev.move rfl)) hS0 rfl rfl ?_   -- t155
  refine RunD.off rfl hS0 rfl rfl ?_   -- t156
  refine RunD.off rfl hS0 rfl rfl ?_   -- t157
  refine RunD.off rfl hS0 rfl rfl ?_   -- t158
  refine RunD.off rfl hS0 rfl rfl ?_   -- t159
  refine RunD.off rfl hS0 rfl rfl ?_   -- t160
  refine RunD.skip rfl hS0 rfl rfl ?_   -- t161
  refine RunD.ev rfl (fun w' hS => (Ev.pick_f rfl rfl)) hS0 rfl rfl ?_   -- t162
  refine RunD.ev rfl (fun w' hS => (Ev.assign rfl)) hS0 rfl rfl ?_   -- t19
  refine RunD.ev rfl (fun w' hS => (Ev.assign rfl)) hS0 rfl rfl ?_   -- t20
  refine RunD.nil ?_
  replace kw := kw.no hS0
  refine At.then ?_
  refine W.seq ?_
  refine W.seq ?_
  -- region 20 (new1119.go:1590)
  refine W.region ?_
  refine Run.ev (Ev.move rfl) rfl rfl ?_   -- t163
  refine Run.ev (Ev.move rfl) rfl rfl ?_   -- t164
  refine Run.ev (Ev.len rfl Tryz.underlying55) rfl rfl ?_   -- t165
  refine Run.ev (Ev.sub (m := (c.ev.length : Int)) (n := 1) rfl rfl (by omega)) rfl rfl ?_   -- t166
  refine Run.ev (Ev.lss (m := (l1.length : Int)) (n := (c.ev.length : Int) - 1) rfl rfl rfl) rfl rfl ?_   -- t167
  refine Run.nil ?_
  refine At.then ?_
  refine W.cond rfl (fun hc167 => ?_) (fun hc167 => ?_)
  · replace hc167 := of_decide_eq_true hc167
    refine W.seq ?_
    -- region 21 (new1119.go:1591)
    refine W.region ?_
    refine Run.ev (Ev.move rfl) rfl rfl ?_   -- t168
    refine Run.ev (Ev.assign rfl) rfl rfl ?_   -- t8
    refine Run.nil ?_
    refine At.then ?_
    refine W.ret ?_
    refine At.then_ret ?_
    exact At.ret1 rfl rfl rfl ⟨rfl, nfs, mb, dv, evv, hfg, hs48.kt0 kw, hp2.kt0 kw, kt2.no kw⟩
  · replace hc167 := of_decide_eq_false hc167
    refine W.skip ?_
    refine At.then ?_
    refine W.seq ?_
    -- region 22 (new1119.go:1593)
    refine W.region ?_
    refine Run.ev (Ev.move rfl) rfl rfl ?_   -- t169
    refine Run.ev (Ev.move rfl) rfl rfl ?_   -- t170
    refine Run.ev (Ev.move rfl) rfl rfl ?_   -- t171
    refine Run.ev (Ev.move rfl) rfl rfl ?_   -- t172
    refine Run.ev (Ev.len rfl Tryz.underlying55) rfl rfl ?_   -- t173
    refine Run.ev (Ev.lss (m := (l1.length : Int)) (n := (c.ev.length : Int)) (b := true) rfl rfl (decide_eq_true (by omega))) rfl rfl ?_   -- t174
    refine Run.ev (Ev.move rfl) rfl rfl ?_   -- t175
    refine Run.ev (Ev.move rfl) rfl rfl ?_   -- t176
    refine Run.ev (Ev.pick_t rfl rfl) rfl rfl ?_   -- t177
    refine Run.ev (Ev.pick_f rfl rfl) rfl rfl ?_   -- t178
    refine Run.ev (Ev.assign rfl) rfl rfl ?_   -- t8
    refine Run.nil ?_
    refine At.then ?_
    refine W.ret ?_
    exact At.ret1 rfl rfl rfl ⟨rfl, nfs, mb, dv, evv, hfg, hs48.kt0 kw, hp2.kt0 kw, kt2.no kw⟩

theorem commitN_calls (sb pb n : Nat) (kv : Value) (kept : List TornP) (c : Com) (l1 l2 : List EvP) (st : StP) (k : Nat) (t : Sto) (p : Pit) (w : World) (hs : StoR sb t w) (hp : PitR pb p w) (hb : Bnd p.nw) (hbo : Bnd p.old) (hnb : ∀ q ∈ t.now, q.1.length ≤ 16 ∧ q.2.length ≤ 4000) (hnl : t.now.length ≤ 30) (hk1 : t.k ≤ 1) (hg : t.g ≤ 1073741824) (hfs : ∀ q ∈ t.fs, ∀ k ∈ q.2.2.1, k < 256) (h64 : all64 t.pages) (h254 : (pusedP p.old []).1 ≤ 254) (hnf : ((pusedP p.nw p.old).2 : Int) ≤ (254 : Int) - ((pusedP p.old []).1 : Int)) (hu1 : (pusedP p.nw p.old).1 ≤ 254) (hc : comP t.g (1 - t.k) t.now (forget t.fs) (freeP t) = some c) (hfr : (freeC c.dl c.fs).length = 254 - (pusedP p.nw p.old).1) (hgen : t.g = p.gen) (hel : c.ev.length = (pusedP p.nw p.old).2 + 3) (hl12 : c.ev = l1 ++ l2) (hnm : n % (c.ev.length + 1) = l1.length) (hok : ∀ e ∈ l1 ++ l2, evOK e) (hkv : Sl w 25 2 kv kept.length (kept.flatMap tornV)) (hkk : ∀ t ∈ kept, tornOK t) (hcr : all64 (crashP t.pages l1 kept)) (hmt : mountP (crashP t.pages l1 kept) = some (st, k)) (hst : st.1.1 = p.gen + 1) (hho : ∀ now : List (Bs × Bs), now.Perm (st.2.2.map fun q => (q.1, q.2.1)) → holds now p.nw) (hsn : ∀ q ∈ st.2.2, q.1.length ≤ 1000000) (hlt : ¬ l1.length < c.ev.length - 1) : Calls P 7 [.pointer (some ⟨pb, 0, none⟩), .pointer (some ⟨sb, 0, none⟩), natv n, kv].toArray w (Ret fun v w' => v = .bool true ∧ ∃ nfs mb dv evv, forget nfs = c.fs ∧ StoR sb (t.com c nfs mb dv evv) w' ∧ PitR pb { p with old := p.nw, ov := p.nv, gen := p.gen + 1 } w' ∧ Kt (fun i => i = sb ∨ i = t.pb ∨ i = pb) w w') := by
  refine enterW 179 Tryz.func7 rfl rfl rfl ?_
  refine W.seq ?_
  -- region 0 (new1119.go:1566)
  refine W.region ?_
  refine Run.ev (Ev.assign rfl) rfl rfl ?_   -- t8
  refine Run.nil ?_
  refine At.then ?_
  refine W.seq ?_
  -- region 1 (new1119.go:1567)
  refine W.region ?_
  refine Run.ev (Ev.move rfl) rfl rfl ?_   -- t21
  refine Run.ev (Ev.nilCheck rfl) rfl rfl ?_   -- t22
  refine Run.ev (Ev.fieldAddr fo_29_1 rfl rfl) rfl rfl ?_   -- t23
  refine Run.ev (Ev.load (v := p.ov) sc_27 rfl (cell_of hp.hb rfl)) rfl rfl ?_   -- t24
  refine Run.ev (Ev.assign rfl) rfl rfl ?_   -- t9
  refine Run.nil ?_
  refine At.then ?_
  refine W.seq ?_
  -- region 2 (new1119.go:1568)
  refine W.region ?_
  refine Run.ev (Ev.move rfl) rfl rfl ?_   -- t26
  refine Run.ev (Ev.nilCheck rfl) rfl rfl ?_   -- t27
  refine Run.ev (Ev.fieldAddr fo_29_1 rfl rfl) rfl rfl ?_   -- t28
  refine Run.ev (Ev.load (v := p.ov) sc_27 rfl (cell_of hp.hb rfl)) rfl rfl ?_   -- t29
  refine Run.step rfl (Stp.callr en_12 rfl (pitUsed_calls p.old [] _ _ w hp.ho ⟨by simp, _, _, rfl, Nat.le_refl _, Nat.zero_le _, .inl rfl⟩ (by have := hbo.1; omega) (by simp) (fun q hq => by have := hbo.2 q hq; omega)) rfl ?_)   -- t30
  rintro v30 w30 ⟨rfl, k30⟩
  replace hp := hp.kt0 k30
  replace hs := hs.kt0 k30
  have kt : Kt No w w30 := k30
  refine Run.ev (Ev.move rfl) rfl rfl ?_   -- t25
  refine Run.ev (Ev.extract rfl rfl) rfl rfl ?_   -- t31
  refine Run.ev (Ev.extract rfl rfl) rfl rfl ?_   -- t32
  refine Run.ev (Ev.assign rfl) rfl rfl ?_   -- t10
  refine Run.ev (Ev.assign rfl) rfl rfl ?_   -- t11
  refine Run.nil ?_
  refine At.then ?_
  refine W.seq ?_
  -- region 3 DRAWS (new1119.go:1569)
  refine W.draw (fun w' => Kt No w30 w') [(0, true), (1, true), (2, true), (3, true), (4, true), (5, true), (6, true), (7, true), (8, false), (9, true), (10, true), (11, true), (12, true), (13, true)] (by repeat (first | exact PQ.body | with_reducible apply PQ.then | with_reducible apply PQ.block)) (by kernel_rfl) (by kernel_rfl) (by kernel_rfl) rfl ?_
  have hS0 := (Kt.refl No w30).drew
  refine RunD.ev rfl (fun w' hS => (Ev.move rfl)) hS0 rfl rfl ?_   -- t34
  refine RunD.ev rfl (fun w' hS => (Ev.nilCheck rfl)) hS0 rfl rfl ?_   -- t35
  refine RunD.ev rfl (fun w' hS => (Ev.fieldAddr fo_29_0 rfl rfl)) hS0 rfl rfl ?_   -- t36
  refine RunD.ev rfl (fun w' hS => (Ev.load (v := p.nv) sc_27 rfl (cell_of (hS.at0 hp.hb) rfl))) hS0 rfl rfl ?_   -- t37
  refine RunD.ev rfl (fun w' hS => (Ev.move rfl)) hS0 rfl rfl ?_   -- t38
  refine RunD.ev rfl (fun w' hS => (Ev.nilCheck rfl)) hS0 rfl rfl ?_   -- t39
  refine RunD.ev rfl (fun w' hS => (Ev.fieldAddr fo_29_1 rfl rfl)) hS0 rfl rfl ?_   -- t40
  refine RunD.ev rfl (fun w' hS => (Ev.load (v := p.ov) sc_27 rfl (cell_of (hS.at0 hp.hb) rfl))) hS0 rfl rfl ?_   -- t41
  replace hp := hp.kt0 hS0
  replace hs := hs.kt0 hS0
  refine RunD.step rfl rfl (Stp.callr en_12 rfl (pitUsed_calls p.nw p.old _ _ _ hp.hn hp.ho (by have := hb.1; omega) (by have := hbo.1; omega) (fun q hq => by have := hb.2 q hq; omega)) rfl ?_)   -- t42
  rintro v42 w42 ⟨rfl, k42⟩
  replace hp := hp.kt0 k42
  replace hs := hs.kt0 k42
  replace kt := (kt.no hS0).no k42
  replace hS0 := hS0.no k42
  have hl1 := blk_lt hs.q.hb
  have hl2 := own_lt (pb := t.pb) hs.q.hpg
  refine ⟨hS0, ?_⟩
  refine RunD.ev rfl (fun w' hS => (Ev.move rfl)) hS0 rfl rfl ?_   -- t33
  refine RunD.ev rfl (fun w' hS => (Ev.extract rfl rfl)) hS0 rfl rfl ?_   -- t43
  refine RunD.ev rfl (fun w' hS => (Ev.extract rfl rfl)) hS0 rfl rfl ?_   -- t44
  refine RunD.ev rfl (fun w' hS => (Ev.assign rfl)) hS0 rfl rfl ?_   -- t12
  refine RunD.ev rfl (fun w' hS => (Ev.assign rfl)) hS0 rfl rfl ?_   -- t13
  refine RunD.nil ?_
  refine At.then ?_
  refine W.seq ?_
  -- region 4 (new1119.go:1570)
  refine W.region ?_
  refine Run.ev (Ev.move rfl) rfl rfl ?_   -- t45
  refine Run.step rfl (Stp.callr en_9 rfl (Pages_calls sb t w42 hs) rfl ?_)   -- t46
  rintro v46 w46 ⟨pgb, pgc, rfl, hpgb, o46, k46⟩
  replace hp := hp.kt0 k46
  replace hs := hs.kt0 k46
  replace kt := kt.no k46
  have hkw := hkv.kt0 kt
  refine Run.ev (Ev.assign rfl) rfl rfl ?_   -- t14
  refine Run.nil ?_
  refine At.then ?_
  refine W.seq ?_
  -- region 5 (new1119.go:1571)
  refine W.region ?_
  refine Run.ev (Ev.move rfl) rfl rfl ?_   -- t47
  refine Run.step rfl (Stp.callr en_29 rfl (Commit_calls sb t w46 hs hnb hnl hk1 hg hfs h64.1) rfl ?_)   -- t48
  rintro v48 w48 (⟨rfl, hc2, _⟩ | ⟨c2, nfs, mb, dv, evv, rfl, hc2, hfg, hmb, hs48, k48⟩)
  · rw [hc] at hc2; cases hc2
  rw [hc] at hc2
  cases hc2
  replace hs48 : StoR sb (t.com c nfs mb dv evv) w48 := hs48
  have hP := (Sl.of_own o46).kt k48 (fun i hi h0 hS => by cases hi; rcases hS with e | e; have e2 : pgb = sb := e; omega; have e2 : pgb = t.pb := e; omega)
  obtain ⟨curp, hgp, _⟩ := own_row (pb := t.pb) hs.q.hpg
  replace hkw := hkw.kt k48 (fun i hi h0 hS => by rcases hS with rfl | rfl; exact hkw.ne hs.q.hb (by intro c f e; simp at e) hi h0; exact hkw.ne hgp (by intro c f e; simp at e) hi h0)
  replace hp := hp.ktc hs k48
  have kt2 : Kt (fun i => i = sb ∨ i = t.pb ∨ i = pb) w w48 := (kt.mono (fun _ _ h => h.elim)).trans k48 (fun i _ h => h.imp id .inl)
  clear hs kt
  refine Run.ev (Ev.assign rfl) rfl rfl ?_   -- t15
  refine Run.nil ?_
  refine At.then ?_
  refine W.seq ?_
  refine W.seq ?_
  -- region 6 (new1119.go:1572)
  refine W.region ?_
  refine Run.ev (Ev.move rfl) rfl rfl ?_   -- t49
  refine Run.ev (Ev.move rfl) rfl rfl ?_   -- t50
  refine Run.ev (Ev.sub (m := 254) (n := ((pusedP p.old []).1 : Int)) rfl rfl (by omega)) rfl rfl ?_   -- t51
  refine Run.ev (Ev.gtr (m := ((pusedP p.nw p.old).2 : Int)) (n := (254 : Int) - ((pusedP p.old []).1 : Int)) (b := false) rfl rfl (decide_eq_false (by omega))) rfl rfl ?_   -- t52
  refine Run.nil ?_
  refine At.then ?_
  refine W.cond_f rfl ?_
  refine W.skip ?_
  refine At.then ?_
  refine W.seq ?_
  -- region 8 DRAWS (new1119.go:1575)
  refine W.drawG (fun w' => ∃ ov', w'.heap[pb]? = some (.cells #[p.nv, ov', natv p.gen] 29 (0, 0))) (fun j => Nat.beq j 16) [(0, true), (1, true), (2, true), (3, true), (4, true), (5, true), (6, true), (7, true), (8, true), (9, true), (10, true), (11, true), (12, true), (13, false), (14, true), (15, true), (16, false)] (by repeat (first | exact PQ.body | with_reducible apply PQ.then | with_reducible apply PQ.block)) (by kernel_rfl) (by kernel_rfl) (by kernel_rfl) rfl ?_
  have hS0 : ∃ ov', w48.drew.heap[pb]? = some (.cells #[p.nv, ov', natv p.gen] 29 (0, 0)) := ⟨_, hp.hb⟩
  refine RunG.pure rfl rfl (fun w' => (Ev.move rfl)) (fun _ => hS0) rfl rfl ?_   -- t71
  refine RunG.pure rfl rfl (fun w' => (Ev.move rfl)) (fun _ => hS0) rfl rfl ?_   -- t72
  refine RunG.pure rfl rfl (fun w' => (Ev.move rfl)) (fun _ => hS0) rfl rfl ?_   -- t73
  refine RunG.pure rfl rfl (fun w' => (Ev.nilCheck rfl)) (fun _ => hS0) rfl rfl ?_   -- t74
  refine RunG.pure rfl rfl (fun w' => (Ev.fieldAddr fo_29_0 rfl rfl)) (fun _ => hS0) rfl rfl ?_   -- t75
  refine RunG.ev rfl rfl (by kernel_rfl) (fun w' hS => (hS.elim fun _ h => Ev.load (v := p.nv) sc_27 rfl (cell_of h rfl))) hS0 rfl rfl ?_   -- t76
  refine RunG.pure rfl rfl (fun w' => (Ev.move rfl)) (fun _ => hS0) rfl rfl ?_   -- t77
  refine RunG.pure rfl rfl (fun w' => (Ev.nilCheck rfl)) (fun _ => hS0) rfl rfl ?_   -- t78
  refine RunG.pure rfl rfl (fun w' => (Ev.fieldAddr fo_29_2 rfl rfl)) (fun _ => hS0) rfl rfl ?_   -- t79
  refine RunG.ev rfl rfl (by kernel_rfl) (fun w' hS => (hS.elim fun _ h => Ev.load (v := natv p.gen) sc_3 rfl (cell_of h rfl))) hS0 rfl rfl ?_   -- t80
  refine RunG.pure rfl rfl (fun w' => (Ev.addN (m := p.gen) (n := 1) rfl rfl (by omega))) (fun _ => hS0) rfl rfl ?_   -- t81
  refine RunG.pure rfl rfl (fun w' => (Ev.nilCheck rfl)) (fun _ => hS0) rfl rfl ?_   -- t82
  refine RunG.pure rfl rfl (fun w' => (Ev.fieldAddr fo_29_1 rfl rfl)) (fun _ => hS0) rfl rfl ?_   -- t83
  refine RunG.step rfl rfl (Stp.store (w := w48.drew) sc_27 sz_27 rfl rfl hp.hn.one hp.hb (by simp) ?_)   -- tNone
  intro wS kS bS zS
  replace hS0 : ∃ ov', wS.heap[pb]? = some (.cells #[p.nv, ov', natv p.gen] 29 (0, 0)) := ⟨p.nv, bS⟩
  replace bS : wS.heap[pb]? = some (.cells #[p.nv, p.nv, natv p.gen] 29 (0, 0)) := bS
  refine ⟨fun _ => hS0, ?_⟩
  refine RunG.pure rfl rfl (fun w' => (Ev.nilCheck rfl)) (fun _ => hS0) rfl rfl ?_   -- t84
  refine RunG.pure rfl rfl (fun w' => (Ev.fieldAddr fo_29_2 rfl rfl)) (fun _ => hS0) rfl rfl ?_   -- t85
  refine RunG.step rfl rfl (Stp.store sc_3 sz_3 rfl rfl rfl bS (by simp) ?_)   -- tNone
  intro wT kT bT zT
  replace bT : wT.heap[pb]? = some (.cells #[p.nv, p.nv, natv (p.gen + 1)] 29 (0, 0)) := bT
  have kp : Kt (fun i => i = pb) w48 wT := ((((Kt.refl No w48).drew).mono (fun _ _ h => h.elim)).trans kS (fun i _ h => h)).trans kT (fun i _ h => h)
  replace hs48 := hs48.ktp29 hp kp
  replace hP := hP.kt kp (fun i hi h0 e => by subst e; exact hP.ne hp.hb (by intro c f e; simp at e) hi h0)
  replace hkw := hkw.kt kp (fun i hi h0 e => by subst e; exact hkw.ne hp.hb (by intro c f e; simp at e) hi h0)
  have hnT := hp.hn.kt kp (fun i hi h0 e => by subst e; exact hp.hn.ne hp.hb (by intro c f e; simp at e) hi h0)
  have hoT := hp.ho.kt kp (fun i hi h0 e => by subst e; exact hp.ho.ne hp.hb (by intro c f e; simp at e) hi h0)
  replace kt2 := kt2.trans kp (fun i _ h => .inr (.inr h))
  have hp2 : PitR pb { p with old := p.nw, ov := p.nv, gen := p.gen + 1 } wT := ⟨bT, hnT, hnT⟩
  clear hp hnT hS0 kS kT kp bS
  refine ⟨(fun h => by cases h), ?_⟩
  refine RunG.nil ?_
  refine At.then ?_
  refine W.seq ?_
  -- region 9 (new1119.go:1576)
  refine W.region ?_
  refine Run.ev (Ev.move rfl) rfl rfl ?_   -- t86
  refine Run.step rfl (Stp.callr en_30 rfl (Events_calls sb (t.com c nfs mb dv evv) wT hs48 (by show c.ev.length ≤ 1000000; omega)) rfl ?_)   -- t87
  rintro v87 w87 ⟨o87, k87, n87⟩
  replace o87 : w87.ownsRow 0 118 2 v87 c.ev.length (evsV c.ev) := o87
  obtain ⟨pe, ce, rfl, hce1, hce2⟩ := (Sl.of_own o87).len
  have kw : Kt No wT w87 := k87
  refine Run.ev (Ev.assign rfl) rfl rfl ?_   -- t16
  refine Run.nil ?_
  refine At.then ?_
  refine W.seq ?_
  refine W.seq ?_
  -- region 10 DRAWS (new1119.go:1577)
  refine W.draw (fun w' => Kt No w87 w') [(0, true), (1, true), (2, true), (3, true), (4, true), (5, true), (6, true), (7, true), (8, true), (9, true), (10, true), (12, true), (13, true), (11, false), (14, true), (15, true), (16, true), (17, true), (19, true), (20, true), (21, true), (22, true), (18, false), (23, true), (24, true)] (by repeat (first | exact PQ.body | with_reducible apply PQ.then | with_reducible apply PQ.block)) (by kernel_rfl) (by kernel_rfl) (by kernel_rfl) rfl ?_
  have hS0 := (Kt.refl No w87).drew
  refine RunD.ev rfl (fun w' hS => (Ev.move rfl)) hS0 rfl rfl ?_   -- t88
  refine RunD.ev rfl (fun w' hS => (Ev.neq (m := 0) (n := 0) (b := false) rfl rfl rfl)) hS0 rfl rfl ?_   -- t89
  refine RunD.ev rfl (fun w' hS => (Ev.move rfl)) hS0 rfl rfl ?_   -- t90
  refine RunD.ev rfl (fun w' hS => (Ev.move rfl)) hS0 rfl rfl ?_   -- t91
  refine RunD.ev rfl (fun w' hS => (Ev.len rfl Tryz.underlying55)) hS0 rfl rfl ?_   -- t92
  refine RunD.ev rfl (fun w' hS => (Ev.move rfl)) hS0 rfl rfl ?_   -- t93
  refine RunD.ev rfl (fun w' hS => (Ev.addN (m := (pusedP p.nw p.old).2) (n := 3) rfl rfl (by omega))) hS0 rfl rfl ?_   -- t94
  refine RunD.ev rfl (fun w' hS => (Ev.neq (m := (c.ev.length : Int)) (n := (((pusedP p.nw p.old).2 + 3 : Nat) : Int)) (b := false) rfl rfl (by rw [hel]; simp))) hS0 rfl rfl ?_   -- t95
  refine RunD.ev rfl (fun w' hS => (Ev.pick_f rfl rfl)) hS0 rfl rfl ?_   -- t96
  refine RunD.ev rfl (fun w' hS => (Ev.move rfl)) hS0 rfl rfl ?_   -- t97
  refine RunD.ev rfl (fun w' hS => (Ev.move rfl)) hS0 rfl rfl ?_   -- t98
  refine RunD.ev rfl (fun w' hS => (Ev.move rfl)) hS0 rfl rfl ?_   -- t100
  refine RunD.ev rfl (fun w' hS => (Ev.sub (m := 254) (n := ((pusedP p.nw p.old).1 : Int)) rfl rfl (by omega))) hS0 rfl rfl ?_   -- t101
  refine RunD.step rfl rfl (Stp.callr en_13 rfl (Free_calls sb (t.com c nfs mb dv evv) _ (hs48.kt0 (kw.no hS0))) rfl ?_)   -- t99
  rintro v99 w99 ⟨rfl, k99⟩
  replace hS0 := hS0.no k99
  refine ⟨hS0, ?_⟩
  refine RunD.ev rfl (fun w' hS => (Ev.neq (m := ((freeP (t.com c nfs mb dv evv)).length : Int)) (n := (254 : Int) - ((pusedP p.nw p.old).1 : Int)) (b := false) rfl rfl (by
    have e : (freeP (t.com c nfs mb dv evv)).length = 254 - (pusedP p.nw p.old).1 := by rw [freeP_C]; show (freeC c.dl (forget nfs)).length = _; rw [hfg]; exact hfr
    rw [decide_eq_true (by omega)]; rfl))) hS0 rfl rfl ?_   -- t102
  refine RunD.ev rfl (fun w' hS => (Ev.pick_f rfl rfl)) hS0 rfl rfl ?_   -- t103
  refine RunD.ev rfl (fun w' hS => (Ev.move rfl)) hS0 rfl rfl ?_   -- t104
  refine RunD.ev rfl (fun w' hS => (Ev.move rfl)) hS0 rfl rfl ?_   -- t105
  refine RunD.ev rfl (fun w' hS => (Ev.move rfl)) hS0 rfl rfl ?_   -- t107
  refine RunD.ev rfl (fun w' hS => (Ev.nilCheck rfl)) hS0 rfl rfl ?_   -- t108
  refine RunD.ev rfl (fun w' hS => (Ev.fieldAddr fo_29_2 rfl rfl)) hS0 rfl rfl ?_   -- t109
  refine RunD.ev rfl (fun w' hS => (Ev.load (v := natv (p.gen + 1)) sc_3 rfl (cell_of ((kw.no hS).at0 hp2.hb) rfl))) hS0 rfl rfl ?_   -- t110
  refine RunD.step rfl rfl (Stp.callr en_11 rfl (Generation_calls sb (t.com c nfs mb dv evv) _ (hs48.kt0 (kw.no hS0))) rfl ?_)   -- t106
  rintro v106 w106 ⟨rfl, e106⟩
  obtain rfl := e106.symm
  refine ⟨hS0, ?_⟩
  refine RunD.ev rfl (fun w' hS => (Ev.neq (m := ((t.g + 1 : Nat) : Int)) (n := ((p.gen + 1 : Nat) : Int)) (b := false) rfl rfl (by rw [hgen]; simp))) hS0 rfl rfl ?_   -- t111
  refine RunD.ev rfl (fun w' hS => (Ev.pick_f rfl rfl)) hS0 rfl rfl ?_   -- t112
  refine RunD.nil ?_
  replace kw := kw.no hS0
  refine At.then ?_
  refine W.cond_f rfl ?_
  refine W.skip ?_
  refine At.then ?_
  refine W.seq ?_
  -- region 12 (new1119.go:1580)
  refine W.region ?_
  refine Run.ev (Ev.move rfl) rfl rfl ?_   -- t113
  refine Run.ev (Ev.move rfl) rfl rfl ?_   -- t114
  refine Run.ev (Ev.len rfl Tryz.underlying55) rfl rfl ?_   -- t115
  refine Run.ev (Ev.addN (m := c.ev.length) (n := 1) rfl rfl (by omega)) rfl rfl ?_   -- t116
  refine Run.ev (Ev.to (v' := natv l1.length) (by rw [← hnm]; rfl) (Ev.rem (m := (n : Int)) (n := ((c.ev.length + 1 : Nat) : Int)) rfl rfl (by omega))) rfl rfl ?_   -- t117
  refine Run.ev (Ev.assign rfl) rfl rfl ?_   -- t2
  refine Run.nil ?_
  refine At.then ?_
  refine W.seq ?_
  -- region 13 (new1119.go:1581)
  refine W.region ?_
  refine Run.ev (Ev.move rfl) rfl rfl ?_   -- t119
  refine Run.ev (Ev.move rfl) rfl rfl ?_   -- t120
  refine Run.ev (Ev.move rfl) rfl rfl ?_   -- t121
  refine Run.ev (Ev.move rfl) rfl rfl ?_   -- t122
  refine Run.step rfl (Stp.callr en_31 rfl (Crash_calls _ _ kv t.pages l1 l2 kept w99 (hP.kt0 kw) h64 (by rw [← hl12]; exact Sl.of_own (hS0.own0 o87)) hok (hkw.kt0 kw) hkk (by rw [← hl12]; omega)) rfl ?_)   -- t123
  rintro v123 w123 ⟨qb, qc, rfl, hqb, o123, k123⟩
  replace kw := kw.no k123
  refine Run.ev (Ev.move rfl) rfl rfl ?_   -- t118
  refine Run.ev (Ev.extract rfl rfl) rfl rfl ?_   -- t124
  refine Run.ev (Ev.extract rfl rfl) rfl rfl ?_   -- t125
  refine Run.ev (Ev.assign rfl) rfl rfl ?_   -- t17
  refine Run.ev (Ev.assign rfl) rfl rfl ?_   -- t15
  refine Run.nil ?_
  refine At.then ?_
  refine W.seq ?_
  refine W.seq ?_
  -- region 14 (new1119.go:1582)
  refine W.region ?_
  refine Run.ev (Ev.move rfl) rfl rfl ?_   -- t126
  refine Run.ev (Ev.neq (m := 0) (n := 0) (b := false) rfl rfl rfl) rfl rfl ?_   -- t127
  refine Run.nil ?_
  refine At.then ?_
  refine W.cond_f rfl ?_
  refine W.skip ?_
  refine At.then ?_
  refine W.seq ?_
  -- region 16 (new1119.go:1585)
  refine W.region ?_
  refine Run.ev (Ev.move rfl) rfl rfl ?_   -- t129
  refine Run.step rfl (Stp.callr en_4 rfl (Mount_calls _ (crashP t.pages l1 kept) w123 (Sl.of_own o123) hcr) rfl ?_)   -- t130
  rintro v130 w130 ⟨k130, (⟨hm, _⟩ | ⟨st2, kk2, sb2, t2, hm, rfl, hsb2, _, _, _, hs2, hst2, _, _, hf2, _, hnow2, _⟩)⟩
  · rw [hmt] at hm; cases hm
  rw [hmt] at hm
  cases hm
  replace kw := kw.no k130
  refine Run.ev (Ev.move rfl) rfl rfl ?_   -- t128
  refine Run.ev (Ev.extract rfl rfl) rfl rfl ?_   -- t131
  refine Run.ev (Ev.extract rfl rfl) rfl rfl ?_   -- t132
  refine Run.ev (Ev.assign rfl) rfl rfl ?_   -- t18
  refine Run.ev (Ev.assign rfl) rfl rfl ?_   -- t15
  refine Run.nil ?_
  refine At.then ?_
  refine W.seq ?_
  refine W.seq ?_
  -- region 17 (new1119.go:1586)
  refine W.region ?_
  refine Run.ev (Ev.move rfl) rfl rfl ?_   -- t133
  refine Run.ev (Ev.neq (m := 0) (n := 0) (b := false) rfl rfl rfl) rfl rfl ?_   -- t134
  refine Run.nil ?_
  refine At.then ?_
  refine W.cond_f rfl ?_
  refine W.skip ?_
  refine At.then ?_
  refine W.seq ?_
  -- region 19 DRAWS (new1119.go:1589)
  refine W.draw (fun w' => Kt No w130 w') [(0, true), (2, true), (3, true), (4, true), (5, true), (6, true), (13, true), (15, true), (16, true), (17, true), (18, true), (1, false), (7, true), (8, true), (9, true), (10, true), (11, false), (12, true), (14, false), (19, true), (20, true), (21, true), (22, true), (23, true), (24, true), (25, true), (26, false), (27, true), (28, true), (29, true)] (by repeat (first | exact PQ.body | with_reducible apply PQ.then | with_reducible apply PQ.block)) (by kernel_rfl) (by kernel_rfl) (by kernel_rfl) rfl ?_
  have hS0 := (Kt.refl No w130).drew
  have hg2 : t2.g = st.1.1 := congrArg (·.1) hst2
  refine RunD.ev rfl (fun w' hS => (Ev.move rfl)) hS0 rfl rfl ?_   -- t135
  refine RunD.ev rfl (fun w' hS => (Ev.move rfl)) hS0 rfl rfl ?_   -- t137
  refine RunD.ev rfl (fun w' hS => (Ev.nilCheck rfl)) hS0 rfl rfl ?_   -- t138
  refine RunD.ev rfl (fun w' hS => (Ev.fieldAddr fo_29_2 rfl rfl)) hS0 rfl rfl ?_   -- t139
  refine RunD.ev rfl (fun w' hS => (Ev.load (v := natv (p.gen + 1)) sc_3 rfl (cell_of ((kw.no hS).at0 hp2.hb) rfl))) hS0 rfl rfl ?_   -- t140
  refine RunD.ev rfl (fun w' hS => (Ev.sub (m := ((p.gen + 1 : Nat) : Int)) (n := 1) rfl rfl (by omega))) hS0 rfl rfl ?_   -- t141
  refine RunD.ev rfl (fun w' hS => (Ev.move rfl)) hS0 rfl rfl ?_   -- t148
  refine RunD.ev rfl (fun w' hS => (Ev.move rfl)) hS0 rfl rfl ?_   -- t150
  refine RunD.ev rfl (fun w' hS => (Ev.nilCheck rfl)) hS0 rfl rfl ?_   -- t151
  refine RunD.ev rfl (fun w' hS => (Ev.fieldAddr fo_29_2 rfl rfl)) hS0 rfl rfl ?_   -- t152
  refine RunD.ev rfl (fun w' hS => (Ev.load (v := natv (p.gen + 1)) sc_3 rfl (cell_of ((kw.no hS).at0 hp2.hb) rfl))) hS0 rfl rfl ?_   -- t153
  refine RunD.step rfl rfl (Stp.callr en_11 rfl (Generation_calls sb2 t2 _ (hs2.kt0 hS0)) rfl ?_)   -- t136
  rintro v136 w136 ⟨rfl, e136⟩
  subst e136
  refine ⟨hS0, ?_⟩
  refine RunD.ev rfl (fun w' hS => (Ev.eql (m := (t2.g : Int)) (n := ((p.gen + 1 : Nat) : Int) - 1) (b := false) rfl rfl (decide_eq_false (by omega)))) hS0 rfl rfl ?_   -- t142
  refine RunD.ev rfl (fun w' hS => (Ev.move rfl)) hS0 rfl rfl ?_   -- t143
  refine RunD.off rfl hS0 rfl rfl ?_   -- t144
  refine RunD.off rfl hS0 rfl rfl ?_   -- t145
  refine RunD.skip rfl hS0 rfl rfl ?_   -- t146
  refine RunD.ev rfl (fun w' hS => (Ev.pick_f rfl rfl)) hS0 rfl rfl ?_   -- t147
  refine RunD.step rfl rfl (Stp.callr en_11 rfl (Generation_calls sb2 t2 _ (hs2.kt0 hS0)) rfl ?_)   -- t149
  rintro v149 w149 ⟨rfl, e149⟩
  subst e149
  refine ⟨hS0, ?_⟩
  refine RunD.ev rfl (fun w' hS => (Ev.eql (m := (t2.g : Int)) (n := ((p.gen + 1 : Nat) : Int)) (b := true) rfl rfl (decide_eq_true (by omega)))) hS0 rfl rfl ?_   -- t154
  refine RunD.ev rfl (fun w' hS => (Ev.move rfl)) hS0 rfl rfl ?_   -- t155
  refine RunD.ev rfl (fun w' hS => (Ev.move rfl)) hS0 rfl rfl ?_   -- t156
  refine RunD.ev rfl (fun w' hS => (Ev.move rfl)) hS0 rfl rfl ?_   -- t157
  refine RunD.ev rfl (fun w' hS => (Ev.nilCheck rfl)) hS0 rfl rfl ?_   -- t158
  refine RunD.ev rfl (fun w' hS => (Ev.fieldAddr fo_29_0 rfl rfl)) hS0 rfl rfl ?_   -- t159
  refine RunD.ev rfl (fun w' hS => (Ev.load (v := p.nv) sc_27 rfl (cell_of ((kw.no hS).at0 hp2.hb) rfl))) hS0 rfl rfl ?_   -- t160
  refine RunD.step rfl rfl (Stp.callr en_10 rfl (pitHolds_calls sb2 t2 p.nv p.nw _ (hs2.kt0 hS0) (hp2.ho.kt0 (kw.no hS0)) (hho _ hnow2) (fun q hq => by
    have h := hnow2.mem_iff.1 hq
    obtain ⟨r, hr, rfl⟩ := List.mem_map.1 h
    exact hsn r hr) (by have := hb.1; omega)) rfl ?_)   -- t161
  rintro v161 w161 ⟨rfl, k161⟩
  replace hS0 := hS0.no k161
  refine ⟨hS0, ?_⟩
  refine RunD.ev rfl (fun w' hS => (Ev.pick_t rfl rfl)) hS0 rfl rfl ?_   -- t162
  refine RunD.ev rfl (fun w' hS => (Ev.assign rfl)) hS0 rfl rfl ?_   -- t19
  refine RunD.ev rfl (fun w' hS => (Ev.assign rfl)) hS0 rfl rfl ?_   -- t20
  refine RunD.nil ?_
  replace kw := kw.no hS0
  refine At.then ?_
  refine W.seq ?_
  refine W.seq ?_
  -- region 20 (new1119.go:1590)
  refine W.region ?_
  refine Run.ev (Ev.move rfl) rfl rfl ?_   -- t163
  refine Run.ev (Ev.move rfl) rfl rfl ?_   -- t164
  refine Run.ev (Ev.len rfl Tryz.underlying55) rfl rfl ?_   -- t165
  refine Run.ev (Ev.sub (m := (c.ev.length : Int)) (n := 1) rfl rfl (by omega)) rfl rfl ?_   -- t166
  refine Run.ev (Ev.lss (m := (l1.length : Int)) (n := (c.ev.length : Int) - 1) rfl rfl rfl) rfl rfl ?_   -- t167
  refine Run.nil ?_
  refine At.then ?_
  refine W.cond rfl (fun hc167 => ?_) (fun hc167 => ?_)
  · replace hc167 := of_decide_eq_true hc167
    exfalso; omega
  · replace hc167 := of_decide_eq_false hc167
    refine W.skip ?_
    refine At.then ?_
    refine W.seq ?_
    -- region 22 (new1119.go:1593)
    refine W.region ?_
    refine Run.ev (Ev.move rfl) rfl rfl ?_   -- t169
    refine Run.ev (Ev.move rfl) rfl rfl ?_   -- t170
    refine Run.evg rfl rfl (fun hg => (Ev.move rfl)) rfl ?_   -- t171
    refine Run.evg rfl rfl (fun hg => (Ev.move rfl)) rfl ?_   -- t172
    refine Run.evg rfl rfl (fun hg => (Ev.len (ifp hg) Tryz.underlying55)) rfl ?_   -- t173
    refine Run.evg rfl rfl (fun hg => (Ev.lss (m := (l1.length : Int)) (n := (c.ev.length : Int)) (ifp hg) (ifp hg) rfl)) rfl ?_   -- t174
    refine Run.evg rfl rfl (fun hg => (Ev.move (ifp hg))) rfl ?_   -- t175
    refine Run.evh rfl rfl (fun hg => (Ev.move rfl)) rfl ?_   -- t176
    refine Run.evg rfl rfl (fun hg => (Ev.pick_andh hg rfl rfl rfl)) rfl ?_   -- t177
    refine Run.ev (Ev.pick_or rfl rfl rfl) rfl rfl ?_   -- t178
    refine Run.ev (Ev.assign rfl) rfl rfl ?_   -- t8
    refine Run.nil ?_
    refine At.then ?_
    refine W.ret ?_
    exact At.ret1 rfl rfl rfl ⟨rfl, nfs, mb, dv, evv, hfg, hs48.kt0 kw, hp2.kt0 kw, kt2.no kw⟩

end Go.Proofs.YtlcgeepjekcfgaaGreat
