/- Format. -/
import Derived.Test.YtlcgeepjekcfgaaGreatZc
namespace Go.Proofs.YtlcgeepjekcfgaaGreat
open Go.RowKit
set_option linter.unusedVariables false
set_option linter.unusedSimpArgs false


section
variable {X : Cx} {E : Env} {w : World} {d : Nat} {ty : TypeId} {pos : String} {aft : Array Edge} {g : Option (Nat × Bool)} {K : Env → World → Prop} {Kp : List PanicEntry → World → Prop}
/-- copy of one-cell elements. -/
theorem Stp.copy {x y : Operand} {t e gb o dl dc bb off sl sc : Nat} {cur scur : Array Value} {T T' : TypeId} {fr : Nat × Nat} {cs : List Value} (ht : P.underlying t = some (.slice e)) (hsz : (P.info? e).map (·.size) = some 1)
    (hx : E.ev x = some (.slice (some ⟨gb, o, none⟩) dl dc)) (hy : E.ev y = some (.slice (some ⟨bb, off, none⟩) sl sc)) (hg : w.heap[gb]? = some (.cells cur T (0, 0))) (hb : w.heap[bb]? = some (.cells scur T' fr)) (hn : cs.length = Nat.min sl dl)
    (hs : (scur.toList.drop off).take cs.length = cs) (hfit : o + cs.length ≤ cur.size) (h1 : ∀ v ∈ cs, v.oneCell' = true) (hd : Nat.blt d X.N = true)
    (h : ∀ w', Kt (fun i => i = gb) w w' → w'.heap[gb]? = some (.cells (cur.toList.take o ++ cs ++ cur.toList.drop (o + cs.length)).toArray T (0, 0)) → w'.heap.size = w.heap.size → K ((d, natv cs.length) :: E) w') :
    Stp X ⟨some d, .call { callee := .builtin .copy, args := #[x, y], argTypes := #[t, t] }, ty, pos, aft, g⟩ E w K Kp := by
  have hr := run_copy_row (P := P) w t t ty e gb o dl dc ⟨bb, off, none⟩ sl sc cur T cs ht hsz hg hn (fun j v hj => by
    rw [add_lit]
    refine cell_of hb ?_
    rw [← hs, List.getElem?_take] at hj
    split at hj
    · simpa using hj
    · cases hj) hfit h1
  refine Stp.val (v := natv cs.length) (w' := w.setRow gb (cur.toList.take o ++ cs ++ cur.toList.drop (o + cs.length)).toArray) (by intro c e; cases e) (fun a ha g => by
    have e1 := ha.ev hx
    have e2 := ha.ev hy
    simp [execOp, resolve, invoke, builtin, e1, e2, hr, goInt, natv]) (fun a ha => ha.put hd) (h _ ⟨by simp, by simp, by simp, by simp, fun k hk hn => setRow_other _ _ _ _ hn⟩ (setRow_heap _ _ _ _ _ _ hg) (by simp))
theorem Ev.conv_u {x : Operand} {n : Nat} {s t : TypeId} (hs : P.underlying s = some (.int .i64)) (ht : P.underlying t = some (.int .u64)) (hx : E.ev x = some (.int .i64 (n : Int))) (hr : n < 18446744073709551616) : Ev X (.convert s t x) ty E w (.int .u64 (n : Int)) w :=
  ⟨(by intro c e; cases e), fun a ha d pos aft g => by
    have : IntKind.u64.wrap (n : Int) = (n : Int) := by simp [IntKind.wrap, IntKind.bits, IntKind.signed]; omega
    simp [execOp, ha.ev hx, convert, run_underlying hs, run_underlying ht, Conv.intToInt, this]⟩
end
theorem mul_calls (x y : Nat) (hx : x ≤ 1000000) (hy : y ≤ 1000000) (w : World) : Calls P 43 [.int .u64 (x : Int), .int .u64 (y : Int)].toArray w (Ret fun v w' => v = .tuple #[.int .u64 0, .int .u64 ((x * y : Nat) : Int)] ∧ w' = w) :=
  Calls.mono (Tryz.bits_Mul x y (by omega) (by omega) w) fun e w' ⟨he, h1⟩ => by
    subst he
    have hxy : x * y < 18446744073709551616 := by
      have := Nat.mul_le_mul hx hy
      omega
    refine ⟨?_, h1⟩
    rw [Nat.div_eq_of_lt hxy, Nat.mod_eq_of_lt hxy]; rfl
theorem rep_step {cs : List Value} {n m : Nat} {v : Value} (h : cs.take n = List.replicate n v) (hl : cs.length = 256) (hn : n + m ≤ 256) : (cs.take n ++ List.replicate m v ++ cs.drop (n + m)).take (n + m) = List.replicate (n + m) v ∧ (cs.take n ++ List.replicate m v ++ cs.drop (n + m)).length = 256 := by
  rw [h, List.replicate_append_replicate]
  constructor
  · rw [List.take_append_of_le_length (by simp)]
    exact List.take_of_length_le (by simp)
  · simp; omega


theorem rep_take {cs : List Value} {n m : Nat} {v : Value} (h : cs.take n = List.replicate n v) (hm : m ≤ n) : cs.take m = List.replicate m v := by
  have : (cs.take n).take m = List.replicate m v := by rw [h, List.take_replicate]; congr 1; omega
  rwa [List.take_take, Nat.min_eq_left hm] at this
theorem cut_ev {a n : Nat} (hn : n ≤ 255) : some (sliced (some ⟨a, 0, none⟩) n 256 256 1) = some (Value.slice (some ⟨a, n, none⟩) (256 - n) (256 - n)) := by
  unfold sliced
  rw [if_neg (by omega)]
  simp [add_lit]

theorem Repeat_calls (s : Bs) (v : Value) (w : World) (h : Sl w 9 1 v 1 [str s]) : Calls P 17 [v, natv 256].toArray w (Ret fun u w' => ∃ b, u = .slice (some ⟨b, 0, none⟩) 256 256 ∧ w.heap.size ≤ b ∧ w'.ownsRow 0 9 1 u 256 ((List.replicate 256 s).map str) ∧ Kt No w w') := by
  obtain ⟨p, cap, rfl, hc1, hc2⟩ := h.len
  have hml := maxLen_le
  refine enterW 48 Tryz.func17 rfl rfl rfl ?_
  refine W.seq ?_
  -- region 0 (slices.go:514)
  refine W.region ?_
  refine Run.ev (Ev.assign rfl) rfl rfl ?_   -- t4
  refine Run.nil ?_
  refine At.then ?_
  refine W.seq ?_
  refine W.seq ?_
  -- region 1 (slices.go:515)
  refine W.region ?_
  refine Run.ev (Ev.move rfl) rfl rfl ?_   -- t9
  refine Run.ev (Ev.lss (m := 256) (n := 0) rfl rfl rfl) rfl rfl ?_   -- t10
  refine Run.nil ?_
  refine At.then ?_
  refine W.cond_f rfl ?_
  refine W.skip ?_
  refine At.then ?_
  refine W.seq ?_
  -- region 3 (slices.go:520)
  refine W.region ?_
  refine Run.ev (Ev.move rfl) rfl rfl ?_   -- t13
  refine Run.ev (Ev.len rfl Tryz.underlying34) rfl rfl ?_   -- t14
  refine Run.ev (Ev.conv_u (n := 1) Tryz.underlying3 Tryz.underlying96 rfl (by omega)) rfl rfl ?_   -- t15
  refine Run.ev (Ev.move rfl) rfl rfl ?_   -- t16
  refine Run.ev (Ev.conv_u (n := 256) Tryz.underlying3 Tryz.underlying96 rfl (by omega)) rfl rfl ?_   -- t17
  refine Run.step rfl (Stp.callr en_43 rfl (mul_calls 1 256 (by omega) (by omega) w) rfl ?_)   -- t18
  rintro v18 w18 ⟨rfl, hw18⟩
  replace hw18 := hw18.symm
  subst hw18
  refine Run.ev (Ev.move rfl) rfl rfl ?_   -- t12
  refine Run.ev (Ev.extract rfl rfl) rfl rfl ?_   -- t19
  refine Run.ev (Ev.extract rfl rfl) rfl rfl ?_   -- t20
  refine Run.ev (Ev.assign rfl) rfl rfl ?_   -- t5
  refine Run.ev (Ev.assign rfl) rfl rfl ?_   -- t6
  refine Run.nil ?_
  refine At.then ?_
  refine W.seq ?_
  refine W.seq ?_
  -- region 4 (slices.go:521)
  refine W.region ?_
  refine Run.ev (Ev.move rfl) rfl rfl ?_   -- t21
  refine Run.ev (Ev.gtr (m := 0) (n := 0) rfl rfl rfl) rfl rfl ?_   -- t22
  refine Run.ev (Ev.move rfl) rfl rfl ?_   -- t23
  refine Run.evg rfl rfl (fun hg => (Ev.move rfl)) rfl ?_   -- t24
  refine Run.evg rfl rfl (fun hg => (Ev.gtr (m := 256) (n := 9223372036854775807) (ifp hg) rfl rfl)) rfl ?_   -- t25
  refine Run.ev (Ev.pick_or rfl rfl rfl) rfl rfl ?_   -- t26
  refine Run.nil ?_
  refine At.then ?_
  refine W.cond_f rfl ?_
  refine W.skip ?_
  refine At.then ?_
  refine W.seq ?_
  -- region 6 (slices.go:525)
  refine W.region ?_
  refine Run.ev (Ev.move rfl) rfl rfl ?_   -- t28
  refine Run.ev (Ev.conv_i (n := 256) Tryz.underlying96 Tryz.underlying3 rfl (by omega)) rfl rfl ?_   -- t29
  refine Run.step rfl (Stp.makeSlice (n := 256) Tryz.underlying34 ei_9 rfl rfl rfl (by omega) (by omega) rfl ?_)   -- t30
  intro a30 w30 e30 k30 b30 z30
  obtain ⟨cs0, hb0, hc0⟩ := own_block b30
  have hl0 : cs0.toList.length = 256 := by rw [hc0, List.length_replicate]
  have h30 := h.kt0 k30
  obtain ⟨_, p2, c2, hv2, _, _, h4⟩ := h30
  cases hv2
  obtain ⟨bs, off, scur, sfr, hpe, hsb, hst⟩ : ∃ b off cs fr, p = some ⟨b, off, none⟩ ∧ w30.heap[b]? = some (.cells cs 9 fr) ∧ (cs.toList.drop off).take (1 * 1) = [str s] := by
    rcases h4 with h4 | ⟨b, off, cs, fr, h1, h2, h3⟩
    · omega
    · exact ⟨b, off, cs, fr, h1, h2, h3⟩
  subst hpe
  refine Run.ev (Ev.assign rfl) rfl rfl ?_   -- t7
  refine Run.nil ?_
  refine At.then ?_
  refine W.seq ?_
  -- region 7 (slices.go:526)
  refine W.region ?_
  refine Run.ev (Ev.move rfl) rfl rfl ?_   -- t31
  refine Run.ev (Ev.move rfl) rfl rfl ?_   -- t32
  refine Run.step rfl (Stp.copy (cs := [str s]) Tryz.underlying34 es_9 rfl rfl hb0 hsb rfl hst (by have := hl0; simp at this; simp; omega) (by intro u hu; simp at hu; subst hu; rfl) rfl ?_)   -- t33
  intro w33 k33 b33 z33
  refine Run.ev (Ev.assign rfl) rfl rfl ?_   -- t8
  refine Run.nil ?_
  refine At.then ?_
  refine W.seq ?_
  refine W.block ?_
  refine W.loop (fun (n : Nat) => [(7, .slice (some ⟨a30, 0, none⟩) 256 256), (8, natv n)])
    (fun n w' => 1 ≤ n ∧ n ≤ 256 ∧ Kt No w w' ∧ ∃ cs : Array Value, w'.heap[a30]? = some (.cells cs 9 (0, 0)) ∧ cs.toList.length = 256 ∧ cs.toList.take n = List.replicate n (str s)) (fun n => 256 - n) 1 ⟨Nat.le_refl _, by decide, k30.new k33 (by rintro i rfl; omega), _, b33, by simp; simp at hl0; omega, by simp⟩ (Env.sub_cons rfl (Env.sub_cons rfl (Env.sub_nil _))) ?_
  clear hb0 hc0 hl0 h4 hsb hst k30 k33 b33
  rintro n w1 ⟨hn1, hn, kt, cs, hb, hl, ht⟩
  refine W.seq ?_
  refine W.seq ?_
  -- region 8 (slices.go:527)
  refine W.region ?_
  refine Run.ev (Ev.move rfl) rfl rfl ?_   -- t34
  refine Run.ev (Ev.move rfl) rfl rfl ?_   -- t35
  refine Run.ev (Ev.len rfl Tryz.underlying34) rfl rfl ?_   -- t36
  refine Run.ev (Ev.lss rfl rfl rfl) rfl rfl ?_   -- t37
  refine Run.nil ?_
  refine At.then ?_
  refine W.cond rfl (fun hc37 => ?_) (fun hc37 => ?_)
  · replace hc37 := of_decide_eq_true hc37
    have hm : min n (256 - n) ≤ n ∧ n + min n (256 - n) ≤ 256 ∧ 0 < min n (256 - n) := by omega
    refine W.skip ?_
    refine At.then ?_
    refine W.block ?_
    -- region 9 DRAWS (slices.go:528)
    refine W.draw (fun _ => True) [(0, true), (1, true), (2, true), (3, true), (4, true), (5, true), (6, true), (7, false), (8, true), (9, true)] (by repeat (first | exact PQ.body | with_reducible apply PQ.then | with_reducible apply PQ.block)) (by kernel_rfl) (by kernel_rfl) (by kernel_rfl) rfl ?_
    have hS0 : True := trivial
    have kd := (Kt.refl No w1).drew
    refine RunD.ev rfl (fun w' hS => (Ev.move rfl)) hS0 rfl rfl ?_   -- t38
    refine RunD.ev rfl (fun w' hS => (Ev.move rfl)) hS0 rfl rfl ?_   -- t39
    refine RunD.ev rfl (fun w' hS => (Ev.move rfl)) hS0 rfl rfl ?_   -- t40
    refine RunD.ev rfl (fun w' hS => (Ev.cut (l := n) (m := 256) Tryz.underlying34 es_9 rfl (.inr ⟨_, rfl, rfl⟩) (.inl ⟨rfl, rfl⟩) (by omega) (by omega) (by omega))) hS0 rfl rfl ?_   -- t41
    refine RunD.ev rfl (fun w' hS => (Ev.move rfl)) hS0 rfl rfl ?_   -- t42
    refine RunD.ev rfl (fun w' hS => (Ev.move rfl)) hS0 rfl rfl ?_   -- t43
    refine RunD.ev rfl (fun w' hS => (Ev.cut (l := 0) (m := n) Tryz.underlying34 es_9 rfl (.inl ⟨rfl, rfl⟩) (.inr ⟨_, rfl, rfl⟩) (by omega) (by omega) (by omega))) hS0 rfl rfl ?_   -- t44
    refine RunD.step rfl rfl (Stp.copy (gb := a30) (o := n) (dl := 256 - n) (dc := 256 - n) (bb := a30) (off := 0) (sl := n) (sc := 256) (cur := cs) (scur := cs) (cs := List.replicate (min n (256 - n)) (str s)) Tryz.underlying34 es_9 (cut_ev (by omega)) rfl (kd.at0 hb) (kd.at0 hb) (by rw [List.length_replicate]) (by rw [List.drop_zero, List.length_replicate]; exact rep_take ht hm.1) (by rw [List.length_replicate]; have := hl; simp at this; omega) (by intro u hu; rw [List.mem_replicate] at hu; rw [hu.2]; rfl) rfl ?_)   -- t45
    intro w45 k45 b45 z45
    refine ⟨hS0, ?_⟩
    refine RunD.ev rfl (fun w' hS => (Ev.addN (m := n) (n := min n (256 - n)) rfl (by simp [Env.ev, Env.get?, natv]) (by omega))) hS0 rfl rfl ?_   -- t46
    refine RunD.ev rfl (fun w' hS => (Ev.assign rfl)) hS0 rfl rfl ?_   -- t8
    refine RunD.nil ?_
    refine At.block ?_
    have hrs := rep_step ht hl hm.2.1
    exact At.round (n + min n (256 - n)) (Env.sub_cons rfl (Env.sub_cons rfl (Env.sub_nil _))) ⟨by omega, hm.2.1, (kt.no kd).new k45 (by rintro i rfl; have := kt.size; omega), _, b45, by simpa using hrs.2, by simpa using hrs.1⟩ (by omega)
  · replace hc37 := of_decide_eq_false hc37
    obtain rfl : n = 256 := by omega
    have hcl : cs.toList = List.replicate 256 (str s) := by rw [← ht]; exact (List.take_of_length_le (by omega)).symm
    refine W.exit ?_
    refine At.then_exit ?_
    refine At.then_exit ?_
    refine At.block_here ?_
    refine At.then ?_
    refine W.seq ?_
    -- region 10 (slices.go:530)
    refine W.region ?_
    refine Run.ev (Ev.move rfl) rfl rfl ?_   -- t47
    refine Run.ev (Ev.assign rfl) rfl rfl ?_   -- t4
    refine Run.nil ?_
    refine At.then ?_
    refine W.ret ?_
    exact At.ret1 rfl rfl rfl ⟨a30, rfl, by omega, ⟨by rw [List.length_map, List.length_replicate], .inr ⟨a30, 256, cs, rfl, Nat.zero_le _, hb, Nat.le_refl _, by rw [maxLen_le]; omega, by have := hl; simpa using this, by rw [hcl, List.map_replicate]; exact List.take_of_length_le (by rw [List.length_replicate]; exact Nat.le_refl _)⟩⟩, kt⟩


def formatP : List Bs := (List.replicate 256 (padP [])).set 0 (rootP 1 0 0)

theorem Format_calls (w : World) : Calls P 5 [].toArray w (Ret fun v w' => ∃ b c, v = .slice (some ⟨b, 0, none⟩) 256 c ∧ w.heap.size ≤ b ∧ w'.ownsRow 0 9 1 v 256 (formatP.map str) ∧ Kt No w w') := by
  refine enterW 10 Tryz.func5 rfl rfl rfl ?_
  refine W.seq ?_
  -- region 0 (store.go:21)
  refine W.region ?_
  refine Run.ev (Ev.assign rfl) rfl rfl ?_   -- t0
  refine Run.nil ?_
  refine At.then ?_
  refine W.seq ?_
  -- region 1 (store.go:22)
  refine W.region ?_
  refine Run.step rfl (Stp.callr en_18 rfl (padded_calls [] w (by simp)) rfl ?_)   -- t2
  rintro v2 w2 ⟨rfl, k2⟩
  refine Run.step rfl (Stp.bslice1 Tryz.underlying34 ei_9 rfl (by decide) (by decide) rfl rfl rfl ?_)   -- t3
  intro a3 w3 e3 k3 b3 z3
  refine Run.step rfl (Stp.callr en_17 rfl (Repeat_calls (padP []) _ w3 b3) rfl ?_)   -- t4
  rintro v4 w4 ⟨b4, rfl, hb4, o4, k4⟩
  refine Run.ev (Ev.assign rfl) rfl rfl ?_   -- t1
  refine Run.nil ?_
  refine At.then ?_
  refine W.seq ?_
  -- region 2 (store.go:23)
  refine W.region ?_
  refine Run.ev (Ev.move rfl) rfl rfl ?_   -- t5
  refine Run.ev (Ev.build (vs := [(0, natv 1)]) (v := rootV (1, 0, 0)) rfl rfl (by kernel_rfl)) rfl rfl ?_   -- t6
  refine Run.step rfl (Stp.callr en_19 rfl (page_calls 1 0 0 _ (by omega) (by omega) (by omega)) rfl ?_)   -- t7
  rintro v7 w7 ⟨rfl, k7⟩
  obtain ⟨cs, hcs, hcn, _, hset⟩ := own_row (k7.own0 o4)
  refine Run.ev (Ev.indexAddr (j := 0) (m := 0) Tryz.underlying34 es_9 rfl rfl (by omega) rfl) rfl rfl ?_   -- t8
  refine Run.step rfl (Stp.store sc_9 sz_9 rfl rfl rfl hcs (by omega) ?_)   -- tNone
  intro wS kS bS zS
  have hw : w.heap.size ≤ b4 := Nat.le_trans (Nat.le_trans k2.size k3.size) hb4
  refine Run.nil ?_
  refine At.then ?_
  refine W.seq ?_
  -- region 3 (store.go:24)
  refine W.region ?_
  refine Run.ev (Ev.move rfl) rfl rfl ?_   -- t9
  refine Run.ev (Ev.assign rfl) rfl rfl ?_   -- t0
  refine Run.nil ?_
  refine At.then ?_
  refine W.ret ?_
  exact At.ret1 rfl rfl rfl ⟨b4, 256, rfl, hw, by unfold formatP; rw [List.map_set]; exact hset wS 0 _ (by omega) bS, (((k2.no k3).no k4).no k7).new kS (by rintro i rfl; exact hw)⟩

end Go.Proofs.YtlcgeepjekcfgaaGreat
