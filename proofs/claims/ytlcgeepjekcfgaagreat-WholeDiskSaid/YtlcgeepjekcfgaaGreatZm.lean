/- WholeDisk: the walk. -/
import Derived.Test.YtlcgeepjekcfgaaGreatLk
namespace Go.Proofs.YtlcgeepjekcfgaaGreat
open Go.RowKit
set_option linter.unusedVariables false
set_option linter.unusedSimpArgs false


/-- A slice of bytes that came in. -/
def RowB (w : World) (a : Option Addr) (n : Nat) (zs : List Nat) : Prop := zs.length = n ∧ (∀ z ∈ zs, z < 256) ∧ (n = 0 ∨ ∃ b off, a = some ⟨b, off, none⟩ ∧ b < w.heap.size ∧ ∀ i z, zs[i]? = some z → w.cell? ⟨b, off + i, none⟩ = some (.int .u8 ((z : Nat) : Int)))
theorem RowB.byte {w : World} {a : Option Addr} {n : Nat} {zs : List Nat} (h : RowB w a n zs) {i : Nat} (hi : i < n) : ∃ z, zs[i]? = some z ∧ z < 256 := by
  have hl : i < zs.length := by rw [h.1]; exact hi
  exact ⟨zs[i], List.getElem?_eq_getElem hl, h.2.1 _ (List.getElem_mem hl)⟩
theorem RowB.ptr {w : World} {a : Option Addr} {n : Nat} {zs : List Nat} (h : RowB w a n zs) (hn : 0 < n) : ∃ b off, a = some ⟨b, off, none⟩ ∧ b < w.heap.size ∧ ∀ i z, zs[i]? = some z → w.cell? ⟨b, off + i, none⟩ = some (.int .u8 ((z : Nat) : Int)) := by
  rcases h.2.2 with h | h
  · omega
  · exact h
/-- What is kept of writes. -/
def tornP (ts : List Nat) (i : Nat) : TornP := (ts.getD (2 * i) 0 % (2 + 254 * (2 * i % 4 / 2)), ts.getD (2 * i + 1) 0 % 65)
def keptP (ts : List Nat) (m : Nat) : List TornP := (List.range m).map (tornP ts)
theorem keptP_succ (ts : List Nat) (m : Nat) : keptP ts (m + 1) = keptP ts m ++ [tornP ts m] := by unfold keptP; rw [List.range_succ, List.map_append]; rfl
theorem keptP_len (ts : List Nat) (m : Nat) : (keptP ts m).length = m := by simp [keptP]
theorem keptP_ok (ts : List Nat) (m : Nat) : ∀ t ∈ keptP ts m, tornOK t := by
  intro t ht
  obtain ⟨i, _, rfl⟩ := List.mem_map.1 ht
  have h0 : 0 < 2 + 254 * (2 * i % 4 / 2) := by omega
  have h1 := Nat.mod_lt (ts.getD (2 * i) 0) h0
  have h2 := Nat.mod_lt (ts.getD (2 * i + 1) 0) (show 0 < 65 by omega)
  exact ⟨by show ts.getD (2 * i) 0 % (2 + 254 * (2 * i % 4 / 2)) < 256; omega, by show ts.getD (2 * i + 1) 0 % 65 ≤ 64; omega⟩
theorem torn_one (t : TornP) : ∀ u ∈ (Value.agg #[natv t.1, natv t.2]).cells.toList, u.oneCell' = true := by
  intro u hu
  simp [Value.cells] at hu
  rcases hu with rfl | rfl <;> rfl
section
variable {X : Cx} {E : Env} {w : World} {ty : TypeId}
theorem Ev.remN {x y : Operand} {m n : Nat} {t u : TypeId} (hx : E.ev x = some (natv m)) (hy : E.ev y = some (natv n)) (hr : 0 < n) : Ev X (.binOp .rem t x y u) ty E w (natv (m % n)) w :=
  Ev.to (by unfold natv; congr 1) (Ev.rem (m := (m : Int)) (n := (n : Int)) hx hy (by omega))
theorem Ev.quoN {x y : Operand} {m n : Nat} {t u : TypeId} (hx : E.ev x = some (natv m)) (hy : E.ev y = some (natv n)) (hr : 0 < n) (hm : m ≤ 9223372036854775807) : Ev X (.binOp .quo t x y u) ty E w (natv (m / n)) w :=
  Ev.to (by unfold natv; congr 1) (Ev.quo (m := (m : Int)) (n := (n : Int)) hx hy (by omega))
theorem Ev.arrAddr {x i : Operand} {t e b off n sz : Nat} {k : IntKind} {j : Int} {m : Nat} (ht : P.underlying t = some (.array n e)) (hsz : (P.info? e).map (·.size) = some sz) (hx : E.ev x = some (.pointer (some ⟨b, off, none⟩))) (hi : E.ev i = some (.int k j)) (h0 : 0 ≤ j ∧ j < n)
    (hm : off + j.toNat * sz = m) : Ev X (.indexAddr t x i) ty E w (.pointer (some ⟨b, m, none⟩)) w :=
  ⟨(by intro c e; cases e), fun a ha d pos aft g => by
    simp only [Option.map_eq_some_iff] at hsz
    obtain ⟨inf, hinf, rfl⟩ := hsz
    subst hm
    simp [execOp, ha.ev hx, ha.ev hi, Instr.indexAt, Instr.sureAddr, asIntOf, run_underlying ht, h0.1, h0.2, sizeOf, typeInfo, hinf, add_lit]⟩
end
/-- The table of changes. -/
def opP (k : Nat) : Nat := [0, 0, 0, 0, 1, 1, 2, 3, 3, 4].getD k 0
def tabV : List Value := [natv 0, natv 0, natv 0, natv 0, natv 1, natv 1, natv 2, natv 3, natv 3, natv 4]
theorem opP_le (k : Nat) : opP k ≤ 4 := by
  unfold opP
  by_cases h : k < 10
  · have : k = 0 ∨ k = 1 ∨ k = 2 ∨ k = 3 ∨ k = 4 ∨ k = 5 ∨ k = 6 ∨ k = 7 ∨ k = 8 ∨ k = 9 := by omega
    rcases this with rfl | rfl | rfl | rfl | rfl | rfl | rfl | rfl | rfl | rfl <;> decide
  · rw [List.getD_eq_getElem?_getD, List.getElem?_eq_none (by simp; omega)]; decide
theorem tab_get (k : Nat) (hk : k < 10) : (over #[.int .i64 0, .int .i64 0, .int .i64 0, .int .i64 0, .int .i64 0, .int .i64 0, .int .i64 0, .int .i64 0, .int .i64 0, .int .i64 0] 0 tabV)[k]? = some (natv (opP k)) := by
  have e : over #[.int .i64 0, .int .i64 0, .int .i64 0, .int .i64 0, .int .i64 0, .int .i64 0, .int .i64 0, .int .i64 0, .int .i64 0, .int .i64 0] 0 tabV = tabV.toArray := rfl
  rw [e]
  have : k = 0 ∨ k = 1 ∨ k = 2 ∨ k = 3 ∨ k = 4 ∨ k = 5 ∨ k = 6 ∨ k = 7 ∨ k = 8 ∨ k = 9 := by omega
  rcases this with rfl | rfl | rfl | rfl | rfl | rfl | rfl | rfl | rfl | rfl <;> rfl
/-- What the first loop has. -/
structure L1R (w : World) (ts : List Nat) (x : Nat × Value) (w' : World) : Prop where
  kt : Kt No w w'
  ho : w'.ownsRow 0 25 2 x.2 x.1 ((keptP ts x.1).flatMap tornV)
  nb : ∀ k, x.2.ownBlock = some k → w.heap.size ≤ k
structure G3 where
  j : Nat
  sb : Nat
  t : Sto
  p : Pit
/-- What the second loop has. -/
structure G3R (w : World) (pb : Nat) (kv : Value) (kept : List TornP) (x : G3) (w' : World) : Prop where
  kt : Kt No w w'
  hs : StoR x.sb x.t w'
  hp : PitR pb x.p w'
  sim : Sim x.t.now x.p.nw
  bn : Bnd x.p.nw
  inv : Inv x.t x.p.old x.p.gen
  gen : x.p.gen ≤ 1 + x.j
  n0 : w.heap.size ≤ pb
  n1 : w.heap.size ≤ x.sb
  n2 : w.heap.size ≤ x.t.mn
  n3 : w.heap.size ≤ x.t.pb
  hk : Sl w' 25 2 kv kept.length (kept.flatMap tornV)
section
variable {w w' w1 w2 : World} {pb : Nat} {kv : Value} {kept : List TornP} {x : G3}
theorem G3R.kt0 (h : G3R w pb kv kept x w') (k : Kt No w' w1) : G3R w pb kv kept x w1 := ⟨h.kt.no k, h.hs.kt0 k, h.hp.kt0 k, h.sim, h.bn, h.inv, h.gen, h.n0, h.n1, h.n2, h.n3, h.hk.kt0 k⟩
theorem G3R.change (h : G3R w pb kv kept x w') {now' : List (Bs × Bs)} {nw' : List PitF} {nv' : Value} (hs : StoR x.sb { x.t with now := now' } w1) (hp : PitR pb { x.p with nw := nw', nv := nv' } w1) (sim : Sim now' nw') (bn : Bnd nw') (k : Kt (fun i => i = pb ∨ i = x.t.mn) w' w1) : G3R w pb kv kept ⟨x.j + 1, x.sb, { x.t with now := now' }, { x.p with nw := nw', nv := nv' }⟩ w1 := by
  refine ⟨h.kt.new k (by rintro i (rfl | rfl); exact h.n0; exact h.n2), hs, hp, sim, bn, h.inv.change now', by show x.p.gen ≤ 1 + (x.j + 1); have := h.gen; omega, h.n0, h.n1, h.n2, h.n3, h.hk.kt k ?_⟩
  rintro i hi h0 (rfl | rfl)
  · exact h.hk.ne h.hp.hb (by intro c f e; simp at e) hi h0
  · obtain ⟨es, c, ho⟩ := h.hs.hmn.obj
    exact h.hk.ne ho (by intro c f e; cases e) hi h0
theorem G3R.commit (h : G3R w pb kv kept x w') {t' : Sto} {p' : Pit} (hs : StoR x.sb t' w1) (hp : PitR pb p' w1) (sim : Sim t'.now p'.nw) (bn : Bnd p'.nw) (inv : Inv t' p'.old p'.gen) (hg : p'.gen ≤ x.p.gen + 1) (hmn : t'.mn = x.t.mn) (hpb : t'.pb = x.t.pb) (k : Kt (fun i => i = x.sb ∨ i = x.t.pb ∨ i = pb) w' w1) : G3R w pb kv kept ⟨x.j + 1, x.sb, t', p'⟩ w1 := by
  refine ⟨h.kt.new k (by rintro i (rfl | rfl | rfl); exact h.n1; exact h.n3; exact h.n0), hs, hp, sim, bn, inv, by show p'.gen ≤ 1 + (x.j + 1); have := h.gen; omega, h.n0, h.n1, by show _ ≤ t'.mn; rw [hmn]; exact h.n2, by show _ ≤ t'.pb; rw [hpb]; exact h.n3, h.hk.kt k ?_⟩
  obtain ⟨curp, hgp, _⟩ := own_row (pb := x.t.pb) h.hs.q.hpg
  rintro i hi h0 (rfl | rfl | rfl)
  · exact h.hk.ne h.hs.q.hb (by intro c f e; simp at e) hi h0
  · exact h.hk.ne hgp (by intro c f e; simp at e) hi h0
  · exact h.hk.ne h.hp.hb (by intro c f e; simp at e) hi h0
theorem G3R.drop (h : G3R w pb kv kept x w') {sb2 : Nat} {t2 : Sto} (kt : Kt No w w1) (hk : Sl w1 25 2 kv kept.length (kept.flatMap tornV)) (hs : StoR sb2 t2 w1) (hp : PitR pb x.p w1) (sim : Sim t2.now x.p.old) (inv : Inv t2 x.p.old x.p.gen) (n1 : w.heap.size ≤ sb2) (n2 : w.heap.size ≤ t2.mn) (n3 : w.heap.size ≤ t2.pb) (k : Kt (fun i => i = pb) w1 w2)
    (b : w2.heap[pb]? = some (.cells #[x.p.ov, x.p.ov, natv x.p.gen] 29 (0, 0))) : G3R w pb kv kept ⟨x.j + 1, sb2, t2, { x.p with nw := x.p.old, nv := x.p.ov }⟩ w2 := by
  have ho := hp.ho.kt k (fun i hi h0 e => by subst e; exact hp.ho.ne hp.hb (by intro c f e; simp at e) hi h0)
  refine ⟨kt.new k (by rintro i rfl; exact h.n0), hs.ktp29 hp k, ⟨b, ho, ho⟩, sim, inv.bnd, inv, by show x.p.gen ≤ 1 + (x.j + 1); have := h.gen; omega, h.n0, n1, n2, n3, hk.kt k ?_⟩
  rintro i hi h0 rfl
  exact hk.ne hp.hb (by intro c f e; simp at e) hi h0
theorem G3R.names (h : G3R w pb kv kept x w') : ∀ q ∈ x.t.now, q.1.length ≤ 1000000 := fun q hq => by have := ((h.sim.bnd h.bn).1 q hq).1; omega
end

theorem disk_calls (a0 a2 : Option Addr) (n0 c0 n2 c2 o1 : Nat) (zs ts : List Nat) (w : World) (h0 : RowB w a0 n0 zs) (h2 : RowB w a2 n2 ts) (ho1 : o1 < 256) : Calls P 3 [.slice a0 n0 c0, .int .u8 ((o1 : Nat) : Int), .slice a2 n2 c2].toArray w (Ret fun v w' => v = .bool true ∧ Kt No w w') := by
  refine enterW 240 Tryz.func3 rfl rfl rfl ?_
  refine W.seq ?_
  -- region 0 (new1119.go:1597)
  refine W.region ?_
  refine Run.ev (Ev.assign rfl) rfl rfl ?_   -- t6
  refine Run.nil ?_
  refine At.then ?_
  refine W.seq ?_
  refine W.seq ?_
  -- region 1 (new1119.go:1598)
  refine W.region ?_
  refine Run.ev (Ev.move rfl) rfl rfl ?_   -- t21
  refine Run.ev (Ev.len rfl Tryz.underlying22) rfl rfl ?_   -- t22
  refine Run.ev (Ev.gtr rfl rfl rfl) rfl rfl ?_   -- t23
  refine Run.ev (Ev.move rfl) rfl rfl ?_   -- t24
  refine Run.evg rfl rfl (fun hg => (Ev.move rfl)) rfl ?_   -- t25
  refine Run.evg rfl rfl (fun hg => (Ev.len (ifp hg) Tryz.underlying22)) rfl ?_   -- t26
  refine Run.evg rfl rfl (fun hg => (Ev.gtr (ifp hg) rfl rfl)) rfl ?_   -- t27
  refine Run.ev (Ev.pick_or rfl rfl rfl) rfl rfl ?_   -- t28
  refine Run.nil ?_
  refine At.then ?_
  refine W.cond rfl (fun hc28 => ?_) (fun hc28 => ?_)
  · refine W.seq ?_
    -- region 2 (new1119.go:1599)
    refine W.region ?_
    refine Run.ev (Ev.assign rfl) rfl rfl ?_   -- t6
    refine Run.nil ?_
    refine At.then ?_
    refine W.ret ?_
    refine At.then_ret ?_
    exact At.ret1 rfl rfl rfl ⟨rfl, Kt.refl _ _⟩
  · rw [Bool.or_eq_false_iff] at hc28
    have hn0 := of_decide_eq_false hc28.1
    have hn2 := of_decide_eq_false hc28.2
    refine W.skip ?_
    refine At.then ?_
    refine W.seq ?_
    -- region 3 (new1119.go:1601)
    refine W.region ?_
    refine Run.ev (Ev.assign rfl) rfl rfl ?_   -- t7
    refine Run.nil ?_
    refine At.then ?_
    refine W.seq ?_
    refine W.seq ?_
    -- region 4 (new1119.go:1602)
    refine W.region ?_
    refine Run.ev (Ev.assign rfl) rfl rfl ?_   -- t8
    refine Run.nil ?_
    refine At.then ?_
    refine W.block ?_
    refine W.loop (fun (x : Nat × Value) => [(0, .slice a0 n0 c0), (1, .int .u8 ((o1 : Nat) : Int)), (2, .slice a2 n2 c2), (7, x.2), (8, natv (2 * x.1))]) (fun x w' => L1R w ts x w' ∧ x.1 ≤ 8) (fun x => n2 + 1 - x.1) (0, .slice none 0 0) ⟨⟨Kt.refl _ _, ⟨rfl, .inl ⟨rfl, rfl⟩⟩, fun k h => by cases h⟩, Nat.zero_le _⟩ (Env.sub_cons rfl (Env.sub_cons rfl (Env.sub_cons rfl (Env.sub_cons rfl (Env.sub_cons rfl (Env.sub_nil _)))))) ?_
    rintro ⟨m, kv⟩ w1 ⟨hL, hm8⟩
    replace hm8 : m ≤ 8 := hm8
    refine W.seq ?_
    refine W.seq ?_
    -- region 5 (new1119.go:1602)
    refine W.region ?_
    refine Run.ev (Ev.move rfl) rfl rfl ?_   -- t29
    refine Run.ev (Ev.addN (m := 2 * m) (n := 1) rfl rfl (by omega)) rfl rfl ?_   -- t30
    refine Run.ev (Ev.move rfl) rfl rfl ?_   -- t31
    refine Run.ev (Ev.len rfl Tryz.underlying22) rfl rfl ?_   -- t32
    refine Run.ev (Ev.lss (m := ((2 * m + 1 : Nat) : Int)) (n := (n2 : Int)) rfl rfl rfl) rfl rfl ?_   -- t33
    refine Run.nil ?_
    refine At.then ?_
    refine W.cond rfl (fun hc33 => ?_) (fun hc33 => ?_)
    · replace hc33 := of_decide_eq_true hc33
      obtain ⟨b, off, rfl, hbl, hcell⟩ := h2.ptr (by omega)
      obtain ⟨z0, hz0, hl0⟩ := h2.byte (i := 2 * m) (by omega)
      obtain ⟨z1, hz1, hl1⟩ := h2.byte (i := 2 * m + 1) (by omega)
      have hd0 : ts.getD (2 * m) 0 = z0 := by rw [List.getD_eq_getElem?_getD, hz0]; rfl
      have hd1 : ts.getD (2 * m + 1) 0 = z1 := by rw [List.getD_eq_getElem?_getD, hz1]; rfl
      refine W.skip ?_
      refine At.then ?_
      refine W.seq ?_
      refine W.block ?_
      -- region 7 DRAWS (new1119.go:1603)
      refine W.draw (fun w' => Kt No w w') [(0, true), (1, true), (2, true), (3, true), (4, true), (5, true), (6, true), (7, true), (8, true), (9, true), (10, true), (11, true), (12, true), (13, true), (14, true), (15, true), (16, true), (17, true), (18, true), (19, true), (20, false), (21, false), (22, true)] (by repeat (first | exact PQ.body | with_reducible apply PQ.then | with_reducible apply PQ.block)) (by kernel_rfl) (by kernel_rfl) (by kernel_rfl) rfl ?_
      have hS0 : Kt No w w1.drew := hL.kt.drew
      have hown := ((Kt.refl No w1).drew).own0 hL.ho
      refine RunD.ev rfl (fun w' hS => (Ev.move rfl)) hS0 rfl rfl ?_   -- t36
      refine RunD.ev rfl (fun w' hS => (Ev.move rfl)) hS0 rfl rfl ?_   -- t37
      refine RunD.ev rfl (fun w' hS => (Ev.move rfl)) hS0 rfl rfl ?_   -- t38
      refine RunD.ev rfl (fun w' hS => (Ev.indexAddr (m := off + (2 * m)) Tryz.underlying22 es_5 rfl rfl (by omega) (by omega))) hS0 rfl rfl ?_   -- t39
      refine RunD.ev rfl (fun w' hS => (Ev.load sc_5 rfl (hS.cell (hcell _ _ hz0) id))) hS0 rfl rfl ?_   -- t40
      refine RunD.ev rfl (fun w' hS => (Ev.conv_i Tryz.underlying5 Tryz.underlying3 rfl (by omega))) hS0 rfl rfl ?_   -- t41
      refine RunD.ev rfl (fun w' hS => (Ev.move rfl)) hS0 rfl rfl ?_   -- t42
      refine RunD.ev rfl (fun w' hS => (Ev.remN (m := 2 * m) (n := 4) rfl rfl (by omega))) hS0 rfl rfl ?_   -- t43
      refine RunD.ev rfl (fun w' hS => (Ev.quoN (m := 2 * m % 4) (n := 2) rfl rfl (by omega) (by omega))) hS0 rfl rfl ?_   -- t44
      refine RunD.ev rfl (fun w' hS => (Ev.mulN (m := 254) (n := 2 * m % 4 / 2) rfl rfl (by omega))) hS0 rfl rfl ?_   -- t45
      refine RunD.ev rfl (fun w' hS => (Ev.addN (m := 2) (n := 254 * (2 * m % 4 / 2)) rfl rfl (by omega))) hS0 rfl rfl ?_   -- t46
      refine RunD.ev rfl (fun w' hS => (Ev.remN (m := z0) (n := 2 + 254 * (2 * m % 4 / 2)) rfl rfl (by omega))) hS0 rfl rfl ?_   -- t47
      refine RunD.ev rfl (fun w' hS => (Ev.move rfl)) hS0 rfl rfl ?_   -- t48
      refine RunD.ev rfl (fun w' hS => (Ev.move rfl)) hS0 rfl rfl ?_   -- t49
      refine RunD.ev rfl (fun w' hS => (Ev.addN (m := 2 * m) (n := 1) rfl rfl (by omega))) hS0 rfl rfl ?_   -- t50
      refine RunD.ev rfl (fun w' hS => (Ev.indexAddr (m := off + (2 * m + 1)) Tryz.underlying22 es_5 rfl rfl (by omega) (by omega))) hS0 rfl rfl ?_   -- t51
      refine RunD.ev rfl (fun w' hS => (Ev.load sc_5 rfl (hS.cell (hcell _ _ hz1) id))) hS0 rfl rfl ?_   -- t52
      refine RunD.ev rfl (fun w' hS => (Ev.conv_i Tryz.underlying5 Tryz.underlying3 rfl (by omega))) hS0 rfl rfl ?_   -- t53
      refine RunD.ev rfl (fun w' hS => (Ev.remN (m := z1) (n := 65) rfl rfl (by omega))) hS0 rfl rfl ?_   -- t54
      refine RunD.ev rfl (fun w' hS => (Ev.build (vs := [(0, natv (z0 % (2 + 254 * (2 * m % 4 / 2)))), (1, natv (z1 % 65))]) (v := .agg #[natv (z0 % (2 + 254 * (2 * m % 4 / 2))), natv (z1 % 65)]) rfl rfl (by kernel_rfl))) hS0 rfl rfl ?_   -- t55
      refine RunD.step rfl rfl (Stp.bslice1 Tryz.underlying23 ei_25 rfl (by decide) (by decide) rfl rfl rfl ?_)   -- t56
      intro a56 w56 e56 k56 b56 z56
      replace hown := k56.own0 hown
      replace hS0 := hS0.no k56
      refine ⟨hS0, ?_⟩
      refine RunD.step rfl rfl (Stp.append (n := m) (m := 1) Tryz.underlying23 ei_25 rfl (by decide) rfl rfl hown b56 (torn_one (z0 % (2 + 254 * (2 * m % 4 / 2)), z1 % 65)) (by omega) (by omega) rfl ?_)   -- t57
      intro v57 w57 o57 k57 n57
      have hsz := hS0.size
      replace hS0 : Kt No w w57 := hS0.new k57 (fun i hi => hL.nb i hi)
      refine ⟨hS0, ?_⟩
      refine RunD.ev rfl (fun w' hS => (Ev.assign rfl)) hS0 rfl rfl ?_   -- t7
      refine RunD.nil ?_
      refine At.block ?_
      refine At.then ?_
      -- region 6 (new1119.go:1602)
      refine W.region ?_
      refine Run.ev (Ev.move rfl) rfl rfl ?_   -- t34
      refine Run.ev (Ev.add rfl rfl (by omega)) rfl rfl ?_   -- t35
      refine Run.ev (Ev.assign rfl) rfl rfl ?_   -- t8
      refine Run.nil ?_
      have et : tornP ts m = (z0 % (2 + 254 * (2 * m % 4 / 2)), z1 % 65) := by unfold tornP; rw [hd0, hd1]
      refine At.round (m + 1, v57) (Env.sub_cons rfl (Env.sub_cons rfl (Env.sub_cons rfl (Env.sub_cons rfl (Env.sub_cons rfl (Env.sub_nil _)))))) ⟨⟨hS0, ?_, fun k hk => (n57 k hk).elim (hL.nb k) (fun h => by omega)⟩, by show m + 1 ≤ 8; omega⟩ (by show n2 + 1 - (m + 1) < n2 + 1 - m; omega)
      show w57.ownsRow 0 25 2 v57 (m + 1) ((keptP ts (m + 1)).flatMap tornV)
      rw [keptP_succ, List.flatMap_append, et]
      exact o57
    · replace hc33 := of_decide_eq_false hc33
      refine W.exit ?_
      refine At.then_exit ?_
      refine At.then_exit ?_
      refine At.block_here ?_
      refine At.then ?_
      refine W.seq ?_
      clear hc33
      -- region 8 (new1119.go:1605)
      refine W.region ?_
      refine Run.ev (Ev.build (vs := [(2, natv 1)]) (v := .agg #[.slice none 0 0, .slice none 0 0, natv 1]) rfl rfl (by kernel_rfl)) rfl rfl ?_   -- t58
      refine Run.step rfl (Stp.box rfl rfl ?_)   -- t59
      intro pb w59 e59 k59 b59 z59
      have kt59 := hL.kt.no k59
      have hw1 := hL.kt.size
      have hkv : Sl w59 25 2 kv (keptP ts m).length ((keptP ts m).flatMap tornV) := by rw [keptP_len]; exact (Sl.of_own hL.ho).kt0 k59
      replace b59 : w59.heap[pb]? = some (.cells #[.slice none 0 0, .slice none 0 0, natv 1] 29 (0, 0)) := b59
      refine Run.ev (Ev.assign rfl) rfl rfl ?_   -- t9
      refine Run.nil ?_
      refine At.then ?_
      refine W.seq ?_
      -- region 9 (new1119.go:1606)
      refine W.region ?_
      refine Run.step rfl (Stp.callr en_5 rfl (Format_calls w59) rfl ?_)   -- t61
      rintro v61 w61 ⟨fb, fc, rfl, hfb, o61, k61⟩
      refine Run.step rfl (Stp.callr en_4 rfl (Mount_calls _ formatP w61 (Sl.of_own o61) format_64) rfl ?_)   -- t62
      rintro v62 w62 ⟨k62, (⟨hm, _⟩ | ⟨st, kk, sb, t0, hm, rfl, hsb, _, hmn, hpb, hs, hst, hk, hdl, hf, hpp, hnow, _⟩)⟩
      · obtain ⟨_, _, h⟩ := first_some; rw [h] at hm; cases hm
      have hI := Inv.first hm hst hk hdl hf hpp hnow
      have hsz1 := k61.size
      have hsz2 := kt59.size
      have kk2 := k61.no k62
      have hG : G3R w pb kv (keptP ts m) ⟨0, sb, t0, ⟨[], [], 1, .slice none 0 0, .slice none 0 0⟩⟩ w62 := ⟨kt59.no kk2, hs, ⟨kk2.at0 b59, ⟨by simp, _, _, rfl, Nat.le_refl _, Nat.zero_le _, .inl rfl⟩, ⟨by simp, _, _, rfl, Nat.le_refl _, Nat.zero_le _, .inl rfl⟩⟩, hI.2, ⟨by simp, by simp⟩, hI.1, by show 1 ≤ 1 + 0; omega, by omega, show w.heap.size ≤ sb by omega, show w.heap.size ≤ t0.mn by omega, show w.heap.size ≤ t0.pb by omega, hkv.kt0 kk2⟩
      have hkk := keptP_ok ts m
      generalize keptP ts m = kept at hG hkk
      clear hL hkv b59
      refine Run.ev (Ev.move rfl) rfl rfl ?_   -- t60
      refine Run.ev (Ev.extract rfl rfl) rfl rfl ?_   -- t63
      refine Run.ev (Ev.extract rfl rfl) rfl rfl ?_   -- t64
      refine Run.ev (Ev.assign rfl) rfl rfl ?_   -- t10
      refine Run.ev (Ev.assign rfl) rfl rfl ?_   -- t11
      refine Run.nil ?_
      refine At.then ?_
      refine W.seq ?_
      refine W.seq ?_
      -- region 10 (new1119.go:1607)
      refine W.region ?_
      refine Run.ev (Ev.move rfl) rfl rfl ?_   -- t65
      refine Run.ev (Ev.neq (m := 0) (n := 0) (b := false) rfl rfl rfl) rfl rfl ?_   -- t66
      refine Run.nil ?_
      refine At.then ?_
      refine W.cond_f rfl ?_
      refine W.skip ?_
      refine At.then ?_
      refine W.seq ?_
      refine W.seq ?_
      -- region 12 (new1119.go:1610)
      refine W.region ?_
      refine Run.ev (Ev.assign rfl) rfl rfl ?_   -- t12
      refine Run.nil ?_
      refine At.then ?_
      refine W.block ?_
      refine W.loop (fun (x : G3) => [(0, .slice a0 n0 c0), (1, .int .u8 ((o1 : Nat) : Int)), (2, .slice a2 n2 c2), (7, kv), (9, .pointer (some ⟨pb, 0, none⟩)), (10, .pointer (some ⟨x.sb, 0, none⟩)), (12, natv (5 * x.j))]) (fun x w' => G3R w pb kv kept x w' ∧ x.j ≤ 60) (fun x => 301 - x.j) ⟨0, sb, t0, ⟨[], [], 1, .slice none 0 0, .slice none 0 0⟩⟩ ⟨hG, Nat.zero_le _⟩ (Env.sub_cons rfl (Env.sub_cons rfl (Env.sub_cons rfl (Env.sub_cons rfl (Env.sub_cons rfl (Env.sub_cons rfl (Env.sub_cons rfl (Env.sub_nil _)))))))) ?_
      rintro ⟨j, sb1, t, p⟩ w1 ⟨hG1, hj60⟩
      replace hj60 : j ≤ 60 := hj60
      have hgen1 : p.gen ≤ 1 + j := hG1.gen
      have hbo := hG1.inv.bnd
      refine W.seq ?_
      refine W.seq ?_
      -- region 13 (new1119.go:1610)
      refine W.region ?_
      refine Run.ev (Ev.move rfl) rfl rfl ?_   -- t67
      refine Run.ev (Ev.addN (m := 5 * j) (n := 4) rfl rfl (by omega)) rfl rfl ?_   -- t68
      refine Run.ev (Ev.move rfl) rfl rfl ?_   -- t69
      refine Run.ev (Ev.len rfl Tryz.underlying22) rfl rfl ?_   -- t70
      refine Run.ev (Ev.lss (m := ((5 * j + 4 : Nat) : Int)) (n := (n0 : Int)) rfl rfl rfl) rfl rfl ?_   -- t71
      refine Run.nil ?_
      refine At.then ?_
      refine W.cond rfl (fun hc71 => ?_) (fun hc71 => ?_)
      · replace hc71 := of_decide_eq_true hc71
        obtain ⟨b, off, rfl, hbl, hcell⟩ := h0.ptr (by omega)
        obtain ⟨z0, hz0, hl0⟩ := h0.byte (i := 5 * j) (by omega)
        obtain ⟨z1, hz1, hl1⟩ := h0.byte (i := 5 * j + 1) (by omega)
        obtain ⟨z2, hz2, hl2⟩ := h0.byte (i := 5 * j + 2) (by omega)
        obtain ⟨z3, hz3, hl3⟩ := h0.byte (i := 5 * j + 3) (by omega)
        obtain ⟨z4, hz4, hl4⟩ := h0.byte (i := 5 * j + 4) (by omega)
        refine W.skip ?_
        refine At.then ?_
        refine W.seq ?_
        refine W.block ?_
        refine W.seq ?_
        -- region 15 DRAWS (new1119.go:1611)
        refine W.draw (fun w' => Kt No w w') [(0, true), (1, true), (2, true), (3, true), (4, true), (5, true), (6, true), (7, true), (8, true), (9, true), (10, true), (11, true), (12, true), (13, true), (14, true), (15, true), (16, true), (17, true), (18, true), (19, true), (20, true), (21, true), (22, true)] (by repeat (first | exact PQ.body | with_reducible apply PQ.then | with_reducible apply PQ.block)) (by kernel_rfl) (by kernel_rfl) (by kernel_rfl) rfl ?_
        have hS0 : Kt No w w1.drew := hG1.kt.drew
        refine RunD.ev rfl (fun w' hS => (Ev.move rfl)) hS0 rfl rfl ?_   -- t74
        refine RunD.ev rfl (fun w' hS => (Ev.move rfl)) hS0 rfl rfl ?_   -- t75
        refine RunD.ev rfl (fun w' hS => (Ev.addN (m := 5 * j) (n := 1) rfl rfl (by omega))) hS0 rfl rfl ?_   -- t76
        refine RunD.ev rfl (fun w' hS => (Ev.indexAddr (m := off + (5 * j + 1)) Tryz.underlying22 es_5 rfl rfl (by omega) (by omega))) hS0 rfl rfl ?_   -- t77
        refine RunD.ev rfl (fun w' hS => (Ev.load sc_5 rfl (hS.cell (hcell _ _ hz1) id))) hS0 rfl rfl ?_   -- t78
        refine RunD.ev rfl (fun w' hS => (Ev.conv_i Tryz.underlying5 Tryz.underlying3 rfl (by omega))) hS0 rfl rfl ?_   -- t79
        refine RunD.ev rfl (fun w' hS => (Ev.remN (m := z1) (n := 5) rfl rfl (by omega))) hS0 rfl rfl ?_   -- t80
        refine RunD.ev rfl (fun w' hS => (Ev.move rfl)) hS0 rfl rfl ?_   -- t81
        refine RunD.ev rfl (fun w' hS => (Ev.move rfl)) hS0 rfl rfl ?_   -- t82
        refine RunD.ev rfl (fun w' hS => (Ev.addN (m := 5 * j) (n := 2) rfl rfl (by omega))) hS0 rfl rfl ?_   -- t83
        refine RunD.ev rfl (fun w' hS => (Ev.indexAddr (m := off + (5 * j + 2)) Tryz.underlying22 es_5 rfl rfl (by omega) (by omega))) hS0 rfl rfl ?_   -- t84
        refine RunD.ev rfl (fun w' hS => (Ev.load sc_5 rfl (hS.cell (hcell _ _ hz2) id))) hS0 rfl rfl ?_   -- t85
        refine RunD.ev rfl (fun w' hS => (Ev.conv_i Tryz.underlying5 Tryz.underlying3 rfl (by omega))) hS0 rfl rfl ?_   -- t86
        refine RunD.ev rfl (fun w' hS => (Ev.remN (m := z2) (n := 5) rfl rfl (by omega))) hS0 rfl rfl ?_   -- t87
        refine RunD.ev rfl (fun w' hS => (Ev.move rfl)) hS0 rfl rfl ?_   -- t88
        refine RunD.ev rfl (fun w' hS => (Ev.move rfl)) hS0 rfl rfl ?_   -- t89
        refine RunD.ev rfl (fun w' hS => (Ev.addN (m := 5 * j) (n := 3) rfl rfl (by omega))) hS0 rfl rfl ?_   -- t90
        refine RunD.ev rfl (fun w' hS => (Ev.indexAddr (m := off + (5 * j + 3)) Tryz.underlying22 es_5 rfl rfl (by omega) (by omega))) hS0 rfl rfl ?_   -- t91
        refine RunD.ev rfl (fun w' hS => (Ev.load sc_5 rfl (hS.cell (hcell _ _ hz3) id))) hS0 rfl rfl ?_   -- t92
        refine RunD.ev rfl (fun w' hS => (Ev.conv_i Tryz.underlying5 Tryz.underlying3 rfl (by omega))) hS0 rfl rfl ?_   -- t93
        refine RunD.ev rfl (fun w' hS => (Ev.assign rfl)) hS0 rfl rfl ?_   -- t13
        refine RunD.ev rfl (fun w' hS => (Ev.assign rfl)) hS0 rfl rfl ?_   -- t14
        refine RunD.ev rfl (fun w' hS => (Ev.assign rfl)) hS0 rfl rfl ?_   -- t15
        refine RunD.nil ?_
        have hG2 := hG1.kt0 ((Kt.refl No w1).drew)
        clear hG1 hS0
        refine At.then ?_
        refine W.seq ?_
        refine W.mid (fun (a : Nat) => [(0, .slice (some ⟨b, off, none⟩) n0 c0), (1, .int .u8 ((o1 : Nat) : Int)), (2, .slice a2 n2 c2), (7, kv), (9, .pointer (some ⟨pb, 0, none⟩)), (10, .pointer (some ⟨sb1, 0, none⟩)), (12, natv (5 * j)), (13, natv a), (14, natv (z2 % 5)), (15, natv z3)]) (fun a w' => a < 40 ∧ w' = w1.drew) ?_ ?_
        · refine W.seq ?_
          -- region 16 (new1119.go:1612)
          refine W.region ?_
          refine Run.ev (Ev.move rfl) rfl rfl ?_   -- t94
          refine Run.ev (Ev.move rfl) rfl rfl ?_   -- t95
          refine Run.ev (Ev.addN (m := 5 * j) (n := 1) rfl rfl (by omega)) rfl rfl ?_   -- t96
          refine Run.ev (Ev.indexAddr (m := off + (5 * j + 1)) Tryz.underlying22 es_5 rfl rfl (by omega) (by omega)) rfl rfl ?_   -- t97
          refine Run.ev (Ev.load sc_5 rfl (hG2.kt.cell (hcell _ _ hz1) id)) rfl rfl ?_   -- t98
          refine Run.ev (Ev.geq rfl rfl rfl) rfl rfl ?_   -- t99
          refine Run.nil ?_
          refine At.then ?_
          refine W.cond rfl (fun hc99 => ?_) (fun hc99 => ?_)
          · replace hc99 := of_decide_eq_true hc99
            -- region 17 (new1119.go:1613)
            refine W.region ?_
            refine Run.ev (Ev.move rfl) rfl rfl ?_   -- t100
            refine Run.ev (Ev.move rfl) rfl rfl ?_   -- t101
            refine Run.ev (Ev.addN (m := 5 * j) (n := 1) rfl rfl (by omega)) rfl rfl ?_   -- t102
            refine Run.ev (Ev.indexAddr (m := off + (5 * j + 1)) Tryz.underlying22 es_5 rfl rfl (by omega) (by omega)) rfl rfl ?_   -- t103
            refine Run.ev (Ev.load sc_5 rfl (hG2.kt.cell (hcell _ _ hz1) id)) rfl rfl ?_   -- t104
            refine Run.ev (Ev.conv_i Tryz.underlying5 Tryz.underlying3 rfl (by omega)) rfl rfl ?_   -- t105
            refine Run.ev (Ev.remN (m := z1) (n := 40) rfl rfl (by omega)) rfl rfl ?_   -- t106
            refine Run.ev (Ev.assign rfl) rfl rfl ?_   -- t13
            refine Run.nil ?_
            exact fun a ha => ⟨rfl, z1 % 40, ha.weak (Env.sub_cons rfl (Env.sub_cons rfl (Env.sub_cons rfl (Env.sub_cons rfl (Env.sub_cons rfl (Env.sub_cons rfl (Env.sub_cons rfl (Env.sub_cons rfl (Env.sub_cons rfl (Env.sub_cons rfl (Env.sub_nil _))))))))))), by omega, rfl⟩
          · replace hc99 := of_decide_eq_false hc99
            refine W.skip ?_
            exact fun a ha => ⟨rfl, z1 % 5, ha.weak (Env.sub_cons rfl (Env.sub_cons rfl (Env.sub_cons rfl (Env.sub_cons rfl (Env.sub_cons rfl (Env.sub_cons rfl (Env.sub_cons rfl (Env.sub_cons rfl (Env.sub_cons rfl (Env.sub_cons rfl (Env.sub_nil _))))))))))), by omega, rfl⟩
        rintro a _ ⟨ha, rfl⟩
        refine At.then ?_
        refine W.seq ?_
        refine W.mid (fun (n : Nat) => [(0, .slice (some ⟨b, off, none⟩) n0 c0), (1, .int .u8 ((o1 : Nat) : Int)), (2, .slice a2 n2 c2), (7, kv), (9, .pointer (some ⟨pb, 0, none⟩)), (10, .pointer (some ⟨sb1, 0, none⟩)), (12, natv (5 * j)), (13, natv a), (14, natv (z2 % 5)), (15, natv n)]) (fun n w' => n ≤ 10000 ∧ w' = w1.drew) ?_ ?_
        · refine W.seq ?_
          -- region 18 (new1119.go:1615)
          refine W.region ?_
          refine Run.ev (Ev.move rfl) rfl rfl ?_   -- t107
          refine Run.ev (Ev.move rfl) rfl rfl ?_   -- t108
          refine Run.ev (Ev.addN (m := 5 * j) (n := 4) rfl rfl (by omega)) rfl rfl ?_   -- t109
          refine Run.ev (Ev.indexAddr (m := off + (5 * j + 4)) Tryz.underlying22 es_5 rfl rfl (by omega) (by omega)) rfl rfl ?_   -- t110
          refine Run.ev (Ev.load sc_5 rfl (hG2.kt.cell (hcell _ _ hz4) id)) rfl rfl ?_   -- t111
          refine Run.ev (Ev.geq rfl rfl rfl) rfl rfl ?_   -- t112
          refine Run.nil ?_
          refine At.then ?_
          refine W.cond rfl (fun hc112 => ?_) (fun hc112 => ?_)
          · replace hc112 := of_decide_eq_true hc112
            -- region 19 (new1119.go:1616)
            refine W.region ?_
            refine Run.ev (Ev.move rfl) rfl rfl ?_   -- t113
            refine Run.ev (Ev.mulN (m := z3) (n := 17) rfl rfl (by omega)) rfl rfl ?_   -- t114
            refine Run.ev (Ev.move rfl) rfl rfl ?_   -- t115
            refine Run.ev (Ev.move rfl) rfl rfl ?_   -- t116
            refine Run.ev (Ev.addN (m := 5 * j) (n := 4) rfl rfl (by omega)) rfl rfl ?_   -- t117
            refine Run.ev (Ev.indexAddr (m := off + (5 * j + 4)) Tryz.underlying22 es_5 rfl rfl (by omega) (by omega)) rfl rfl ?_   -- t118
            refine Run.ev (Ev.load sc_5 rfl (hG2.kt.cell (hcell _ _ hz4) id)) rfl rfl ?_   -- t119
            refine Run.ev (Ev.conv_i Tryz.underlying5 Tryz.underlying3 rfl (by omega)) rfl rfl ?_   -- t120
            refine Run.ev (Ev.remN (m := z4) (n := 8) rfl rfl (by omega)) rfl rfl ?_   -- t121
            refine Run.ev (Ev.addN (m := z3 * 17) (n := z4 % 8) rfl rfl (by omega)) rfl rfl ?_   -- t122
            refine Run.ev (Ev.assign rfl) rfl rfl ?_   -- t15
            refine Run.nil ?_
            exact fun a ha => ⟨rfl, z3 * 17 + z4 % 8, ha.weak (Env.sub_cons rfl (Env.sub_cons rfl (Env.sub_cons rfl (Env.sub_cons rfl (Env.sub_cons rfl (Env.sub_cons rfl (Env.sub_cons rfl (Env.sub_cons rfl (Env.sub_cons rfl (Env.sub_cons rfl (Env.sub_nil _))))))))))), by omega, rfl⟩
          · replace hc112 := of_decide_eq_false hc112
            refine W.skip ?_
            exact fun a ha => ⟨rfl, z3, ha.weak (Env.sub_cons rfl (Env.sub_cons rfl (Env.sub_cons rfl (Env.sub_cons rfl (Env.sub_cons rfl (Env.sub_cons rfl (Env.sub_cons rfl (Env.sub_cons rfl (Env.sub_cons rfl (Env.sub_cons rfl (Env.sub_nil _))))))))))), by omega, rfl⟩
        rintro n _ ⟨hn, rfl⟩
        refine At.then ?_
        refine W.seq ?_
        -- region 20 (new1119.go:1618)
        refine W.region ?_
        refine Run.ev (Ev.assign rfl) rfl rfl ?_   -- t16
        refine Run.nil ?_
        refine At.then ?_
        refine W.seq ?_
        refine W.mid (fun (x : G3) => [(0, .slice (some ⟨b, off, none⟩) n0 c0), (1, .int .u8 ((o1 : Nat) : Int)), (2, .slice a2 n2 c2), (7, kv), (9, .pointer (some ⟨pb, 0, none⟩)), (10, .pointer (some ⟨x.sb, 0, none⟩)), (12, natv (5 * j)), (16, .bool true)]) (fun x w' => G3R w pb kv kept x w' ∧ x.j = j + 1) ?_ ?_
        · refine W.seq ?_
          -- region 21 (new1119.go:1619)
          refine W.region ?_
          refine Run.ev (Ev.move rfl) rfl rfl ?_   -- t123
          refine Run.ev (Ev.move rfl) rfl rfl ?_   -- t124
          refine Run.ev (Ev.indexAddr (m := off + (5 * j)) Tryz.underlying22 es_5 rfl rfl (by omega) (by omega)) rfl rfl ?_   -- t125
          refine Run.ev (Ev.load sc_5 rfl (hG2.kt.cell (hcell _ _ hz0) id)) rfl rfl ?_   -- t126
          refine Run.ev (Ev.conv_i Tryz.underlying5 Tryz.underlying3 rfl (by omega)) rfl rfl ?_   -- t127
          refine Run.ev (Ev.remN (m := z0) (n := 16) rfl rfl (by omega)) rfl rfl ?_   -- t128
          refine Run.ev (Ev.assign rfl) rfl rfl ?_   -- t17
          refine Run.nil ?_
          refine At.then ?_
          refine W.block ?_
          refine W.seq ?_
          -- region 25 (new1119.go:1620)
          refine W.region ?_
          refine Run.ev (Ev.move rfl) rfl rfl ?_   -- t145
          refine Run.ev (Ev.lss (m := ((z0 % 16 : Nat) : Int)) (n := 10) rfl rfl rfl) rfl rfl ?_   -- t146
          refine Run.ev (Ev.assign rfl) rfl rfl ?_   -- t144
          refine Run.nil ?_
          refine At.then ?_
          refine W.cond rfl (fun hc144 => ?_) (fun hc144 => ?_)
          · replace hc144 := of_decide_eq_true hc144
            refine W.seq ?_
            -- region 26 (new1119.go:1621)
            refine W.region ?_
            refine Run.ev (Ev.build (vs := [(0, natv 0), (1, natv 0), (2, natv 0), (3, natv 0), (4, natv 1), (5, natv 1), (6, natv 2), (7, natv 3), (8, natv 3), (9, natv 4)]) (v := .agg tabV.toArray) rfl rfl (by kernel_rfl)) rfl rfl ?_   -- t147
            refine Run.step rfl (Stp.alloc zc_36 rfl ?_)   -- t18
            intro a18 w18 e18 k18 b18 z18
            refine Run.step rfl (Stp.storeA (vs := tabV) ag_36 rfl rfl rfl (by simp [tabV, natv, Value.oneCell']) b18 (by simp) ?_)   -- tNone
            intro wS kS bS zS
            have hG3 := hG2.kt0 (k18.new kS (by rintro i rfl; omega))
            refine Run.nil ?_
            refine At.then ?_
            -- region 27 (new1119.go:1622)
            refine W.region ?_
            refine Run.ev (Ev.move rfl) rfl rfl ?_   -- t148
            refine Run.ev (Ev.move rfl) rfl rfl ?_   -- t149
            refine Run.ev (Ev.move rfl) rfl rfl ?_   -- t150
            refine Run.ev (Ev.arrAddr (m := z0 % 16) Tryz.underlying36 es_3 rfl rfl (by omega) (by omega)) rfl rfl ?_   -- t151
            refine Run.ev (Ev.load (v := natv (opP (z0 % 16))) sc_3 rfl (cell_of bS (tab_get _ (by omega)))) rfl rfl ?_   -- t152
            refine Run.ev (Ev.move rfl) rfl rfl ?_   -- t153
            refine Run.ev (Ev.move rfl) rfl rfl ?_   -- t154
            refine Run.ev (Ev.move rfl) rfl rfl ?_   -- t155
            refine Run.step rfl (Stp.callr en_6 rfl (change_calls sb1 pb (opP (z0 % 16)) a (z2 % 5) n t p wS (opP_le _) hG3.hs hG3.hp hG3.sim hG3.bn (by omega) (by omega) (by omega)) rfl ?_)   -- t156
            rintro v156 w156 ⟨rfl, now2, nw2, nv2, hs2, hp2, hsim2, hb2, k156⟩
            have hG4 := hG3.change hs2 hp2 hsim2 hb2 k156
            refine Run.ev (Ev.assign rfl) rfl rfl ?_   -- t16
            refine Run.nil ?_
            refine At.block ?_
            exact fun a ha => ⟨rfl, ⟨j + 1, sb1, { t with now := now2 }, { p with nw := nw2, nv := nv2 }⟩, ha.weak (Env.sub_cons rfl (Env.sub_cons rfl (Env.sub_cons rfl (Env.sub_cons rfl (Env.sub_cons rfl (Env.sub_cons rfl (Env.sub_cons rfl (Env.sub_cons rfl (Env.sub_nil _))))))))), hG4, rfl⟩
          · refine W.seq ?_
            -- region 28 (new1119.go:1623)
            refine W.region ?_
            refine Run.ev (Ev.move rfl) rfl rfl ?_   -- t158
            refine Run.ev (Ev.lss (m := ((z0 % 16 : Nat) : Int)) (n := 14) rfl rfl rfl) rfl rfl ?_   -- t159
            refine Run.ev (Ev.assign rfl) rfl rfl ?_   -- t157
            refine Run.nil ?_
            refine At.then ?_
            refine W.cond rfl (fun hc157 => ?_) (fun hc157 => ?_)
            · -- region 29 (new1119.go:1624)
              refine W.region ?_
              refine Run.ev (Ev.move rfl) rfl rfl ?_   -- t160
              refine Run.ev (Ev.move rfl) rfl rfl ?_   -- t161
              refine Run.ev (Ev.move rfl) rfl rfl ?_   -- t162
              refine Run.ev (Ev.conv_i Tryz.underlying5 Tryz.underlying3 rfl (by omega)) rfl rfl ?_   -- t163
              refine Run.ev (Ev.move rfl) rfl rfl ?_   -- t164
              refine Run.ev (Ev.addN (m := o1) (n := 5 * j) rfl rfl (by omega)) rfl rfl ?_   -- t165
              refine Run.ev (Ev.move rfl) rfl rfl ?_   -- t166
              refine Run.step rfl (Stp.callr en_7 rfl (commit_calls sb1 pb (o1 + 5 * j) kv kept t p w1.drew hG2.hs hG2.hp hG2.sim hG2.bn hG2.inv (by omega) hG2.hk hkk) rfl ?_)   -- t167
              rintro v167 w167 ⟨rfl, t2, p2, hs2, hp2, hsim2, hb2, hI2, hg2, hmn2, hpb2, k167⟩
              have hG4 := hG2.commit hs2 hp2 hsim2 hb2 hI2 hg2 hmn2 hpb2 k167
              refine Run.ev (Ev.assign rfl) rfl rfl ?_   -- t16
              refine Run.nil ?_
              refine At.block ?_
              exact fun a ha => ⟨rfl, ⟨j + 1, sb1, t2, p2⟩, ha.weak (Env.sub_cons rfl (Env.sub_cons rfl (Env.sub_cons rfl (Env.sub_cons rfl (Env.sub_cons rfl (Env.sub_cons rfl (Env.sub_cons rfl (Env.sub_cons rfl (Env.sub_nil _))))))))), hG4, rfl⟩
            · refine W.seq ?_
              -- region 30 (new1119.go:1625)
              refine W.region ?_
              refine Run.ev (Ev.move rfl) rfl rfl ?_   -- t169
              refine Run.ev (Ev.eql (m := ((z0 % 16 : Nat) : Int)) (n := 14) rfl rfl rfl) rfl rfl ?_   -- t170
              refine Run.ev (Ev.assign rfl) rfl rfl ?_   -- t168
              refine Run.nil ?_
              refine At.then ?_
              refine W.cond rfl (fun hc168 => ?_) (fun hc168 => ?_)
              · refine W.seq ?_
                -- region 31 (new1119.go:1626)
                refine W.region ?_
                refine Run.ev (Ev.move rfl) rfl rfl ?_   -- t171
                refine Run.step rfl (Stp.callr en_8 rfl (Abort_calls sb1 t _ w1.drew hG2.hs.q) rfl ?_)   -- t172
                rintro v172 w172 ⟨rfl, now2, mn2, hp2, hmn2, hs2, k172⟩
                have hA := hG2.inv.abort (mn := mn2) hp2
                have hpA : PitR pb p w172 := hG2.hp.kt k172 (fun e => by have h := hG2.hs.q.hb; have h3 := hG2.hp.hb; replace e : pb = sb1 := e; subst e; rw [h3] at h; simp at h) (by rintro i rfl; exact ⟨_, hG2.hs.q.hb, by intro c f e; simp at e⟩)
                have hkA := hG2.hk.kt k172 (fun i hi h0 hS => by have e : i = sb1 := hS; subst e; exact hG2.hk.ne hG2.hs.q.hb (by intro c f e; simp at e) hi h0)
                have ktA : Kt No w w172 := hG2.kt.new k172 (by rintro i rfl; exact hG2.n1)
                refine Run.nil ?_
                refine At.then ?_
                -- region 32 (new1119.go:1627)
                refine W.region ?_
                refine Run.ev (Ev.move rfl) rfl rfl ?_   -- t173
                refine Run.ev (Ev.move rfl) rfl rfl ?_   -- t174
                refine Run.ev (Ev.nilCheck rfl) rfl rfl ?_   -- t175
                refine Run.ev (Ev.fieldAddr fo_29_1 rfl rfl) rfl rfl ?_   -- t176
                refine Run.ev (Ev.load (v := p.ov) sc_27 rfl (cell_of hpA.hb rfl)) rfl rfl ?_   -- t177
                refine Run.ev (Ev.nilCheck rfl) rfl rfl ?_   -- t178
                refine Run.ev (Ev.fieldAddr fo_29_0 rfl rfl) rfl rfl ?_   -- t179
                refine Run.step rfl (Stp.store sc_27 sz_27 rfl rfl hpA.ho.one hpA.hb (by simp) ?_)   -- tNone
                intro wS kS bS zS
                have hG4 := hG2.drop (t2 := { t with now := now2, mn := mn2 }) (sb2 := sb1) ktA hkA hs2 hpA hA.2 hA.1 hG2.n1 (Nat.le_trans hG2.kt.size hmn2) hG2.n3 kS bS
                refine Run.nil ?_
                refine At.block ?_
                exact fun a ha => ⟨rfl, ⟨j + 1, sb1, { t with now := now2, mn := mn2 }, { p with nw := p.old, nv := p.ov }⟩, ha.weak (Env.sub_cons rfl (Env.sub_cons rfl (Env.sub_cons rfl (Env.sub_cons rfl (Env.sub_cons rfl (Env.sub_cons rfl (Env.sub_cons rfl (Env.sub_cons rfl (Env.sub_nil _))))))))), hG4, rfl⟩
              · refine W.seq ?_
                -- region 22 (new1119.go:1629)
                refine W.region ?_
                refine Run.ev (Ev.move rfl) rfl rfl ?_   -- t130
                refine Run.step rfl (Stp.callr en_9 rfl (Pages_calls sb1 t w1.drew hG2.hs) rfl ?_)   -- t131
                rintro v131 w131 ⟨gb, gc, rfl, hgb, o131, k131⟩
                refine Run.step rfl (Stp.callr en_4 rfl (Mount_calls _ t.pages w131 (Sl.of_own o131) hG2.inv.p64) rfl ?_)   -- t132
                rintro v132 w132 ⟨k132, (⟨hm, _⟩ | ⟨st, kk, sb2, t2, hm, rfl, hsb2, _, hmn2, hpb2, hs2, hst, hk2, hdl, hf, hpp, hnow, _⟩)⟩
                · have h := hG2.inv.mount (show p.gen < 255 by omega); replace h : mountP t.pages = _ := h; rw [h] at hm; cases hm
                have hR := hG2.inv.remount (show p.gen < 255 by omega) hm hst hk2 hdl hf hpp hnow
                have kk2 := k131.no k132
                have ktA := hG2.kt.no kk2
                have hpA := hG2.hp.kt0 kk2
                have hkA := hG2.hk.kt0 kk2
                have hszA := k131.size
                have hszB := hG2.kt.size
                refine Run.ev (Ev.move rfl) rfl rfl ?_   -- t129
                refine Run.ev (Ev.extract rfl rfl) rfl rfl ?_   -- t133
                refine Run.ev (Ev.extract rfl rfl) rfl rfl ?_   -- t134
                refine Run.ev (Ev.assign rfl) rfl rfl ?_   -- t10
                refine Run.ev (Ev.assign rfl) rfl rfl ?_   -- t11
                refine Run.nil ?_
                refine At.then ?_
                refine W.seq ?_
                -- region 23 (new1119.go:1630)
                refine W.region ?_
                refine Run.ev (Ev.move rfl) rfl rfl ?_   -- t135
                refine Run.ev (Ev.move rfl) rfl rfl ?_   -- t136
                refine Run.ev (Ev.nilCheck rfl) rfl rfl ?_   -- t137
                refine Run.ev (Ev.fieldAddr fo_29_1 rfl rfl) rfl rfl ?_   -- t138
                refine Run.ev (Ev.load (v := p.ov) sc_27 rfl (cell_of hpA.hb rfl)) rfl rfl ?_   -- t139
                refine Run.ev (Ev.nilCheck rfl) rfl rfl ?_   -- t140
                refine Run.ev (Ev.fieldAddr fo_29_0 rfl rfl) rfl rfl ?_   -- t141
                refine Run.step rfl (Stp.store sc_27 sz_27 rfl rfl hpA.ho.one hpA.hb (by simp) ?_)   -- tNone
                intro wS kS bS zS
                have hG4 := hG2.drop ktA hkA hs2 hpA hR.2 hR.1 (by omega) (by omega) (by omega) kS bS
                refine Run.nil ?_
                refine At.then ?_
                -- region 24 (new1119.go:1631)
                refine W.region ?_
                refine Run.ev (Ev.move rfl) rfl rfl ?_   -- t142
                refine Run.ev (Ev.eql (m := 0) (n := 0) (b := true) rfl rfl rfl) rfl rfl ?_   -- t143
                refine Run.ev (Ev.assign rfl) rfl rfl ?_   -- t16
                refine Run.nil ?_
                refine At.block ?_
                exact fun a ha => ⟨rfl, ⟨j + 1, sb2, t2, { p with nw := p.old, nv := p.ov }⟩, ha.weak (Env.sub_cons rfl (Env.sub_cons rfl (Env.sub_cons rfl (Env.sub_cons rfl (Env.sub_cons rfl (Env.sub_cons rfl (Env.sub_cons rfl (Env.sub_cons rfl (Env.sub_nil _))))))))), hG4, rfl⟩
        rintro ⟨j2, sb2, t2, p2⟩ w2 ⟨hG, hxj⟩
        obtain rfl : j2 = j + 1 := hxj
        have hgen : t2.g = p2.gen := hG.inv.gen
        refine At.then ?_
        refine W.seq ?_
        -- region 33 DRAWS (new1119.go:1633)
        refine W.draw (fun w' => Kt No w2 w') [(0, true), (1, true), (2, true), (3, true), (4, true), (5, true), (6, true), (7, true), (8, false), (9, true), (10, true), (11, true), (12, true), (14, true), (15, true), (16, true), (17, true), (13, false), (18, true), (19, true)] (by repeat (first | exact PQ.body | with_reducible apply PQ.then | with_reducible apply PQ.block)) (by kernel_rfl) (by kernel_rfl) (by kernel_rfl) rfl ?_
        have hS0 := (Kt.refl No w2).drew
        refine RunD.ev rfl (fun w' hS => (Ev.move rfl)) hS0 rfl rfl ?_   -- t180
        refine RunD.ev rfl (fun w' hS => (Ev.not rfl)) hS0 rfl rfl ?_   -- t181
        refine RunD.ev rfl (fun w' hS => (Ev.move rfl)) hS0 rfl rfl ?_   -- t182
        refine RunD.ev rfl (fun w' hS => (Ev.move rfl)) hS0 rfl rfl ?_   -- t183
        refine RunD.ev rfl (fun w' hS => (Ev.move rfl)) hS0 rfl rfl ?_   -- t184
        refine RunD.ev rfl (fun w' hS => (Ev.nilCheck rfl)) hS0 rfl rfl ?_   -- t185
        refine RunD.ev rfl (fun w' hS => (Ev.fieldAddr fo_29_0 rfl rfl)) hS0 rfl rfl ?_   -- t186
        refine RunD.ev rfl (fun w' hS => (Ev.load (v := p2.nv) sc_27 rfl (cell_of (hS.at0 hG.hp.hb) rfl))) hS0 rfl rfl ?_   -- t187
        refine RunD.step rfl rfl (Stp.callr en_10 rfl (pitHolds_calls sb2 t2 p2.nv p2.nw _ (hG.hs.kt0 hS0) (hG.hp.hn.kt0 hS0) hG.sim.holds hG.names (by have : p2.nw.length ≤ 30 := hG.bn.1; omega)) rfl ?_)   -- t188
        rintro v188 w188 ⟨rfl, k188⟩
        replace hS0 := hS0.no k188
        refine ⟨hS0, ?_⟩
        refine RunD.ev rfl (fun w' hS => (Ev.not rfl)) hS0 rfl rfl ?_   -- t189
        refine RunD.ev rfl (fun w' hS => (Ev.pick_f rfl rfl)) hS0 rfl rfl ?_   -- t190
        refine RunD.ev rfl (fun w' hS => (Ev.move rfl)) hS0 rfl rfl ?_   -- t191
        refine RunD.ev rfl (fun w' hS => (Ev.move rfl)) hS0 rfl rfl ?_   -- t192
        refine RunD.ev rfl (fun w' hS => (Ev.move rfl)) hS0 rfl rfl ?_   -- t194
        refine RunD.ev rfl (fun w' hS => (Ev.nilCheck rfl)) hS0 rfl rfl ?_   -- t195
        refine RunD.ev rfl (fun w' hS => (Ev.fieldAddr fo_29_2 rfl rfl)) hS0 rfl rfl ?_   -- t196
        refine RunD.ev rfl (fun w' hS => (Ev.load (v := natv p2.gen) sc_3 rfl (cell_of (hS.at0 hG.hp.hb) rfl))) hS0 rfl rfl ?_   -- t197
        refine RunD.step rfl rfl (Stp.callr en_11 rfl (Generation_calls sb2 t2 _ (hG.hs.kt0 hS0)) rfl ?_)   -- t193
        rintro v193 w193 ⟨rfl, e193⟩
        subst e193
        refine ⟨hS0, ?_⟩
        refine RunD.ev rfl (fun w' hS => (Ev.neq (m := (t2.g : Int)) (n := (p2.gen : Int)) (b := false) rfl rfl (by rw [hgen]; simp))) hS0 rfl rfl ?_   -- t198
        refine RunD.ev rfl (fun w' hS => (Ev.pick_f rfl rfl)) hS0 rfl rfl ?_   -- t199
        refine RunD.nil ?_
        replace hG := hG.kt0 hS0
        refine At.then ?_
        refine W.cond_f rfl ?_
        refine W.skip ?_
        refine At.block ?_
        refine At.then ?_
        -- region 14 (new1119.go:1610)
        refine W.region ?_
        refine Run.ev (Ev.move rfl) rfl rfl ?_   -- t72
        refine Run.ev (Ev.addN (m := 5 * j) (n := 5) rfl rfl (by omega)) rfl rfl ?_   -- t73
        refine Run.ev (Ev.assign rfl) rfl rfl ?_   -- t12
        refine Run.nil ?_
        exact At.round ⟨j + 1, sb2, t2, p2⟩ (Env.sub_cons rfl (Env.sub_cons rfl (Env.sub_cons rfl (Env.sub_cons rfl (Env.sub_cons rfl (Env.sub_cons rfl (Env.sub_cons rfl (Env.sub_nil _)))))))) ⟨hG, by show j + 1 ≤ 60; omega⟩ (by show 301 - (j + 1) < 301 - j; omega)
      · replace hc71 := of_decide_eq_false hc71
        refine W.exit ?_
        refine At.then_exit ?_
        refine At.then_exit ?_
        refine At.block_here ?_
        refine At.then ?_
        refine W.seq ?_
        -- region 35 (new1119.go:1637)
        refine W.region ?_
        refine Run.ev (Ev.move rfl) rfl rfl ?_   -- t201
        refine Run.step rfl (Stp.callr en_9 rfl (Pages_calls sb1 t w1 hG1.hs) rfl ?_)   -- t202
        rintro v202 w202 ⟨gb, gc, rfl, hgb, o202, k202⟩
        refine Run.step rfl (Stp.callr en_4 rfl (Mount_calls _ t.pages w202 (Sl.of_own o202) hG1.inv.p64) rfl ?_)   -- t203
        rintro v203 w203 ⟨k203, (⟨hm, _⟩ | ⟨st, kk, sb2, t2, hm, rfl, hsb2, _, hmn2, hpb2, hs2, hst, hk2, hdl, hf, hpp, hnow, _⟩)⟩
        · have h := hG1.inv.mount (show p.gen < 255 by omega); replace h : mountP t.pages = _ := h; rw [h] at hm; cases hm
        have hR := hG1.inv.remount (show p.gen < 255 by omega) hm hst hk2 hdl hf hpp hnow
        have kk2 := k202.no k203
        have ktA := hG1.kt.no kk2
        have hpA : PitR pb p w203 := hG1.hp.kt0 kk2
        have hgen : t2.g = p.gen := hR.1.gen
        have hfree := hR.1.free
        replace hfree : (freeP t2).length + (pusedP p.old []).1 = 254 := hfree
        replace hbo : Bnd p.old := hbo
        refine Run.ev (Ev.move rfl) rfl rfl ?_   -- t200
        refine Run.ev (Ev.extract rfl rfl) rfl rfl ?_   -- t204
        refine Run.ev (Ev.extract rfl rfl) rfl rfl ?_   -- t205
        refine Run.ev (Ev.assign rfl) rfl rfl ?_   -- t10
        refine Run.ev (Ev.assign rfl) rfl rfl ?_   -- t11
        refine Run.nil ?_
        refine At.then ?_
        refine W.seq ?_
        -- region 36 (new1119.go:1638)
        refine W.region ?_
        refine Run.ev (Ev.move rfl) rfl rfl ?_   -- t207
        refine Run.ev (Ev.nilCheck rfl) rfl rfl ?_   -- t208
        refine Run.ev (Ev.fieldAddr fo_29_1 rfl rfl) rfl rfl ?_   -- t209
        refine Run.ev (Ev.load (v := p.ov) sc_27 rfl (cell_of hpA.hb rfl)) rfl rfl ?_   -- t210
        refine Run.step rfl (Stp.callr en_12 rfl (pitUsed_calls p.old [] _ _ w203 hpA.ho ⟨by simp, _, _, rfl, Nat.le_refl _, Nat.zero_le _, .inl rfl⟩ (by have := hbo.1; omega) (by simp) (fun q hq => by have := hbo.2 q hq; omega)) rfl ?_)   -- t211
        rintro v211 w211 ⟨rfl, k211⟩
        replace hpA := hpA.kt0 k211
        replace hs2 := hs2.kt0 k211
        replace ktA := ktA.no k211
        refine Run.ev (Ev.move rfl) rfl rfl ?_   -- t206
        refine Run.ev (Ev.extract rfl rfl) rfl rfl ?_   -- t212
        refine Run.ev (Ev.extract rfl rfl) rfl rfl ?_   -- t213
        refine Run.ev (Ev.assign rfl) rfl rfl ?_   -- t19
        refine Run.ev (Ev.assign rfl) rfl rfl ?_   -- t20
        refine Run.nil ?_
        refine At.then ?_
        refine W.seq ?_
        -- region 37 DRAWS (new1119.go:1639)
        refine W.draw (fun w' => Kt No w211 w') [(0, true), (1, true), (2, true), (3, true), (4, true), (5, true), (6, true), (7, true), (8, false), (9, true), (10, true), (11, true), (13, true), (14, true), (15, true), (16, true), (12, false), (17, true), (18, true), (19, true), (20, true), (22, true), (23, true), (21, false), (24, true), (25, true), (26, true)] (by repeat (first | exact PQ.body | with_reducible apply PQ.then | with_reducible apply PQ.block)) (by kernel_rfl) (by kernel_rfl) (by kernel_rfl) rfl ?_
        have hS0 := (Kt.refl No w211).drew
        refine RunD.ev rfl (fun w' hS => (Ev.move rfl)) hS0 rfl rfl ?_   -- t214
        refine RunD.ev rfl (fun w' hS => (Ev.eql (m := 0) (n := 0) (b := true) rfl rfl rfl)) hS0 rfl rfl ?_   -- t215
        refine RunD.ev rfl (fun w' hS => (Ev.move rfl)) hS0 rfl rfl ?_   -- t216
        refine RunD.ev rfl (fun w' hS => (Ev.move rfl)) hS0 rfl rfl ?_   -- t217
        refine RunD.ev rfl (fun w' hS => (Ev.move rfl)) hS0 rfl rfl ?_   -- t218
        refine RunD.ev rfl (fun w' hS => (Ev.nilCheck rfl)) hS0 rfl rfl ?_   -- t219
        refine RunD.ev rfl (fun w' hS => (Ev.fieldAddr fo_29_1 rfl rfl)) hS0 rfl rfl ?_   -- t220
        refine RunD.ev rfl (fun w' hS => (Ev.load (v := p.ov) sc_27 rfl (cell_of (hS.at0 hpA.hb) rfl))) hS0 rfl rfl ?_   -- t221
        refine RunD.step rfl rfl (Stp.callr en_10 rfl (pitHolds_calls sb2 t2 p.ov p.old _ (hs2.kt0 hS0) (hpA.ho.kt0 hS0) hR.2.holds (fun q hq => by have := ((hR.2.bnd hbo).1 q hq).1; omega) (by have := hbo.1; omega)) rfl ?_)   -- t222
        rintro v222 w222 ⟨rfl, k222⟩
        replace hS0 := hS0.no k222
        refine ⟨hS0, ?_⟩
        refine RunD.ev rfl (fun w' hS => (Ev.pick_t rfl rfl)) hS0 rfl rfl ?_   -- t223
        refine RunD.ev rfl (fun w' hS => (Ev.move rfl)) hS0 rfl rfl ?_   -- t224
        refine RunD.ev rfl (fun w' hS => (Ev.move rfl)) hS0 rfl rfl ?_   -- t225
        refine RunD.ev rfl (fun w' hS => (Ev.move rfl)) hS0 rfl rfl ?_   -- t227
        refine RunD.ev rfl (fun w' hS => (Ev.nilCheck rfl)) hS0 rfl rfl ?_   -- t228
        refine RunD.ev rfl (fun w' hS => (Ev.fieldAddr fo_29_2 rfl rfl)) hS0 rfl rfl ?_   -- t229
        refine RunD.ev rfl (fun w' hS => (Ev.load (v := natv p.gen) sc_3 rfl (cell_of (hS.at0 hpA.hb) rfl))) hS0 rfl rfl ?_   -- t230
        refine RunD.step rfl rfl (Stp.callr en_11 rfl (Generation_calls sb2 t2 _ (hs2.kt0 hS0)) rfl ?_)   -- t226
        rintro v226 w226 ⟨rfl, e226⟩
        subst e226
        refine ⟨hS0, ?_⟩
        refine RunD.ev rfl (fun w' hS => (Ev.eql (m := (t2.g : Int)) (n := (p.gen : Int)) (b := true) rfl rfl (decide_eq_true (by rw [hgen])))) hS0 rfl rfl ?_   -- t231
        refine RunD.ev rfl (fun w' hS => (Ev.pick_t rfl rfl)) hS0 rfl rfl ?_   -- t232
        refine RunD.ev rfl (fun w' hS => (Ev.move rfl)) hS0 rfl rfl ?_   -- t233
        refine RunD.ev rfl (fun w' hS => (Ev.move rfl)) hS0 rfl rfl ?_   -- t234
        refine RunD.ev rfl (fun w' hS => (Ev.move rfl)) hS0 rfl rfl ?_   -- t236
        refine RunD.ev rfl (fun w' hS => (Ev.sub (m := 254) (n := ((pusedP p.old []).1 : Int)) rfl rfl (by omega))) hS0 rfl rfl ?_   -- t237
        refine RunD.step rfl rfl (Stp.callr en_13 rfl (Free_calls sb2 t2 _ (hs2.kt0 hS0)) rfl ?_)   -- t235
        rintro v235 w235 ⟨rfl, k235⟩
        replace hS0 := hS0.no k235
        refine ⟨hS0, ?_⟩
        refine RunD.ev rfl (fun w' hS => (Ev.eql (m := ((freeP t2).length : Int)) (n := (254 : Int) - ((pusedP p.old []).1 : Int)) (b := true) rfl rfl (decide_eq_true (by omega)))) hS0 rfl rfl ?_   -- t238
        refine RunD.ev rfl (fun w' hS => (Ev.pick_t rfl rfl)) hS0 rfl rfl ?_   -- t239
        refine RunD.ev rfl (fun w' hS => (Ev.assign rfl)) hS0 rfl rfl ?_   -- t6
        refine RunD.nil ?_
        refine At.then ?_
        refine W.ret ?_
        exact At.ret1 rfl rfl rfl ⟨rfl, ktA.no hS0⟩

end Go.Proofs.YtlcgeepjekcfgaaGreat
