/- Roots: page and rootOf. -/
import Derived.Test.YtlcgeepjekcfgaaGreatK
namespace Go.Proofs.YtlcgeepjekcfgaaGreat
open Go.RowKit
set_option linter.unusedVariables false
set_option linter.unusedSimpArgs false


theorem W.mid {X : Cx} {Q : Exit → Act → World → Prop} {E : Env} {w : World} {c : Code} {α : Type} (E' : α → Env) (J : α → World → Prop) (h : W X c (fun e a w' => e = .normal ∧ ∃ x, Fits X (E' x) a ∧ J x w') E w) (k : ∀ x w', J x w' → At X Q .normal (E' x) w') : W X c Q E w :=
  fun a ha => wpIn_mono (h a ha) (fun e a w ⟨he, x, hf, hj⟩ => he ▸ k x w hj a hf)
theorem PQ.mid {P : Act → World → Prop} : PQ (fun e a w => e = .normal ∧ P a w) := fun c a a' w hd h => by cases h.1

section
variable {X : Cx} {E : Env} {w : World} {fn : Func} {R : Ending → World → Prop}
theorem run_loadVar_agg {ty n b o : Nat} {cs : Array Value} {T : TypeId} {fr : Nat × Nat} {vs : List Value} (ht : aggr ty = some n) (hb : w.heap[b]? = some (.cells cs T fr)) (hv : (cs.toList.drop o).take n = vs) (hn : vs.length = n) : (loadVar ty ⟨b, o, none⟩).run P w = .ok (.agg vs.toArray) w := by
  have h1 := (run_isAgg_aggr ht w).1
  have h2 := (run_isAgg_aggr ht w).2
  have h3 := run_loadCellsFrom w ⟨b, o, none⟩ vs 0 #[] (fun j u hu => by
    rw [add_lit]
    refine cell_of hb ?_
    subst hv
    rw [List.getElem?_take] at hu
    split at hu
    · simpa using hu
    · cases hu)
  rw [hn] at h3
  simp [loadVar, h1, h2, loadCells, h3]
theorem run_loadVar_scal {ty : Nat} {p : Addr} {v : Value} (ht : scal ty = true) (hc : w.cell? p = some v) : (loadVar ty p).run P w = .ok v w := by
  simp [loadVar, run_isAgg_scal ht, Go.load, Sem.run, hc]
theorem At.retA {t ty n b : Nat} {cs : Array Value} {T : TypeId} {fr : Nat × Nat} {e : Exit} (he : e = .ret ∨ e = .normal) (hf : fn.results = #[.cell t ty]) (hd : X.ds = []) (hv : E.get? t = some (.pointer (some ⟨b, 0, none⟩))) (ht : aggr ty = some n) (hb : w.heap[b]? = some (.cells cs T fr)) (hn : cs.size = n) (h : R (.returned (.agg cs)) w) : At X (bodyPost P fn R) e E w :=
  At.res he hd (fun a ha => by
    have h1 := ha.get t _ hv
    have h2 := run_loadVar_agg (w := w) (o := 0) (vs := cs.toList) ht hb (by rw [List.drop_zero, ← hn]; exact List.take_of_length_le (by simp)) (by simp [hn])
    simp [results, hf, h1, asAddr, h2]) h
end

def magicP : Bs := [77, 66, 79, 89]
def rootS (g d s : Nat) : Bs := magicP ++ be g 4 ++ be d 2 ++ be s 2
def rootP (g d s : Nat) : Bs := padP (rootS g d s ++ sum4 [rootS g d s])
def cutP (p : Bs) (l m : Nat) : Bs := (p.drop l).take (m - l)
def rootOfP (p : Bs) : Option (Nat × Nat × Nat) :=
  if (1 ≤ unbe (cutP p 4 8) ∧ unbe (cutP p 4 8) ≤ 1073741824) ∧ rootP (unbe (cutP p 4 8)) (unbe (cutP p 8 10)) (unbe (cutP p 10 12)) = p then some (unbe (cutP p 4 8), unbe (cutP p 8 10), unbe (cutP p 10 12)) else none
def rootV (r : Nat × Nat × Nat) : Value := .agg #[natv r.1, natv r.2.1, natv r.2.2]
theorem rootS_len (g d s : Nat) : (rootS g d s).length = 12 := by simp [rootS, magicP, be_length]
theorem cutP_len (p : Bs) (l m : Nat) : (cutP p l m).length ≤ m - l := by simp [cutP]; omega
theorem unbe_cut (p : Bs) (l m : Nat) (h : m - l ≤ 4) : unbe (cutP p l m) < 2 ^ 32 := by
  have h1 := unbe_lt (cutP p l m)
  have h2 : 256 ^ (cutP p l m).length ≤ 256 ^ 4 := Nat.pow_le_pow_right (by omega) (by have := cutP_len p l m; omega)
  omega

theorem page_calls (g d s : Nat) (w : World) (hg : g < 2 ^ 62) (hd : d < 2 ^ 62) (hs : s < 2 ^ 62) : Calls P 19 [rootV (g, d, s)].toArray w (Ret fun v w' => v = str (rootP g d s) ∧ Kt No w w') := by
  refine enterW 22 Tryz.func19 rfl rfl rfl ?_
  refine W.seq ?_
  -- region 0 (layout.go:85)
  refine W.region ?_
  refine Run.step rfl (Stp.box rfl rfl ?_)   -- t1
  intro a1 w1 e1 k1 b1 z1
  refine Run.ev (Ev.assign rfl) rfl rfl ?_   -- t2
  refine Run.nil ?_
  refine At.then ?_
  refine W.seq ?_
  -- region 1 DRAWS (layout.go:86)
  refine W.draw (fun w' => Kt No w1 w') [(0, true), (1, true), (4, true), (5, true), (8, true), (9, true), (2, false), (3, true), (6, false), (7, true), (10, false), (11, true), (12, true)] (by repeat (first | exact PQ.body | apply PQ.then | apply PQ.block)) (by kernel_rfl) (by kernel_rfl) (by kernel_rfl) rfl ?_
  have hS0 := (Kt.refl No w1).drew
  refine RunD.ev rfl (fun w' hS => (Ev.fieldAddr fo_46_0 rfl rfl)) hS0 rfl rfl ?_   -- t4
  refine RunD.ev rfl (fun w' hS => (Ev.load sc_3 rfl (by first | exact cell_of (hS.at0 b1) rfl))) hS0 rfl rfl ?_   -- t5
  refine RunD.ev rfl (fun w' hS => (Ev.fieldAddr fo_46_1 rfl rfl)) hS0 rfl rfl ?_   -- t8
  refine RunD.ev rfl (fun w' hS => (Ev.load sc_3 rfl (by first | exact cell_of (hS.at0 b1) rfl))) hS0 rfl rfl ?_   -- t9
  refine RunD.ev rfl (fun w' hS => (Ev.fieldAddr fo_46_2 rfl rfl)) hS0 rfl rfl ?_   -- t12
  refine RunD.ev rfl (fun w' hS => (Ev.load sc_3 rfl (by first | exact cell_of (hS.at0 b1) rfl))) hS0 rfl rfl ?_   -- t13
  refine RunD.step rfl rfl (Stp.callr en_45 rfl (digits_calls g 4 _ (by omega) (by omega)) rfl ?_)   -- t6
  rintro v6 w6 ⟨rfl, k6⟩
  replace hS0 := hS0.no k6
  refine ⟨hS0, ?_⟩
  refine RunD.ev rfl (fun w' hS => (Ev.sadd (p := magicP) rfl rfl (by simp [magicP, be_length]))) hS0 rfl rfl ?_   -- t7
  refine RunD.step rfl rfl (Stp.callr en_45 rfl (digits_calls d 2 _ (by omega) (by omega)) rfl ?_)   -- t10
  rintro v10 w10 ⟨rfl, k10⟩
  replace hS0 := hS0.no k10
  refine ⟨hS0, ?_⟩
  refine RunD.ev rfl (fun w' hS => (Ev.sadd rfl rfl (by simp [magicP, be_length]))) hS0 rfl rfl ?_   -- t11
  refine RunD.step rfl rfl (Stp.callr en_45 rfl (digits_calls s 2 _ (by omega) (by omega)) rfl ?_)   -- t14
  rintro v14 w14 ⟨rfl, k14⟩
  replace hS0 := hS0.no k14
  refine ⟨hS0, ?_⟩
  refine RunD.ev rfl (fun w' hS => (Ev.sadd rfl rfl (by simp [magicP, be_length]))) hS0 rfl rfl ?_   -- t15
  refine RunD.ev rfl (fun w' hS => (Ev.assign rfl)) hS0 rfl rfl ?_   -- t3
  refine RunD.nil ?_
  refine At.then ?_
  refine W.seq ?_
  -- region 2 (layout.go:87)
  refine W.region ?_
  refine Run.ev (Ev.move rfl) rfl rfl ?_   -- t16
  refine Run.ev (Ev.move rfl) rfl rfl ?_   -- t17
  refine Run.step rfl (Stp.bslice1 Tryz.underlying34 ei_9 rfl (by decide) (by decide) rfl rfl rfl ?_)   -- t18
  intro a18 w18 e18 k18 b18 z18
  refine Run.step rfl (Stp.callr en_46 rfl (sum_calls [rootS g d s] _ _ (by simp) b18 (by simp) (by simp [rootS_len])) rfl ?_)   -- t19
  rintro v19 w19 ⟨rfl, k19⟩
  refine Run.ev (Ev.sadd (p := rootS g d s) rfl rfl (by rw [sum4_length, rootS_len]; omega)) rfl rfl ?_   -- t20
  refine Run.step rfl (Stp.callr en_18 rfl (padded_calls _ _ (by simp [sum4_length, rootS_len])) rfl ?_)   -- t21
  rintro v21 w21 ⟨rfl, k21⟩
  refine Run.ev (Ev.assign rfl) rfl rfl ?_   -- t2
  refine Run.nil ?_
  refine At.then ?_
  refine W.ret ?_
  exact At.ret1 rfl rfl rfl ⟨rfl, (((k1.no hS0).no k18).no k19).no k21⟩

theorem rootOf_calls (p : Bs) (w : World) (hp : p.length = 64) : Calls P 37 [str p].toArray w (RetO No w (rootOfP p) fun r v w' => v = rootV r ∧ Kt No w w') := by
  refine enterW 30 Tryz.func37 rfl rfl rfl ?_
  refine W.seq ?_
  -- region 0 (layout.go:91)
  refine W.region ?_
  refine Run.step rfl (Stp.alloc zc_46 rfl ?_)   -- t2
  intro a2 w2 e2 k2 b2 z2
  refine Run.nil ?_
  refine At.then ?_
  refine W.seq ?_
  refine W.mid (fun (a3 : Nat) => [(0, str p), (2, .pointer (some ⟨a2, 0, none⟩)), (3, .pointer (some ⟨a3, 0, none⟩))]) (fun a3 w' => Kt No w2 w' ∧ w2.heap.size ≤ a3 ∧ w'.heap[a3]? = some (.cells #[natv (unbe (cutP p 4 8)), natv (unbe (cutP p 8 10)), natv (unbe (cutP p 10 12))] 46 (0, 0))) ?_ ?_
  · refine W.drawF (fun _ => True) 12 PQ.mid (by kernel_rfl) (by kernel_rfl) rfl ?_
    have kk := (Kt.refl No w2).drew
    refine RunF.ev (i := 0) rfl (by kernel_rfl) (by kernel_rfl) (fun w' hS => (Ev.move rfl)) trivial rfl rfl ?_
    refine RunF.ev (i := 1) rfl (by kernel_rfl) (by kernel_rfl) (fun w' hS => (Ev.scut (l := 4) (m := 8) Tryz.underlying9 rfl (.inr ⟨_, rfl, rfl⟩) (.inr ⟨_, rfl, rfl⟩) (by omega) (by omega))) trivial rfl rfl ?_
    refine RunF.ev (i := 3) rfl (by kernel_rfl) (by kernel_rfl) (fun w' hS => (Ev.move rfl)) trivial rfl rfl ?_
    refine RunF.ev (i := 4) rfl (by kernel_rfl) (by kernel_rfl) (fun w' hS => (Ev.scut (l := 8) (m := 10) Tryz.underlying9 rfl (.inr ⟨_, rfl, rfl⟩) (.inr ⟨_, rfl, rfl⟩) (by omega) (by omega))) trivial rfl rfl ?_
    refine RunF.ev (i := 6) rfl (by kernel_rfl) (by kernel_rfl) (fun w' hS => (Ev.move rfl)) trivial rfl rfl ?_
    refine RunF.ev (i := 7) rfl (by kernel_rfl) (by kernel_rfl) (fun w' hS => (Ev.scut (l := 10) (m := 12) Tryz.underlying9 rfl (.inr ⟨_, rfl, rfl⟩) (.inr ⟨_, rfl, rfl⟩) (by omega) (by omega))) trivial rfl rfl ?_
    refine RunF.fork (i := 2) (j := 10) (by kernel_rfl) rfl rfl rfl rfl ?_ ?_
    · refine (Stp.callr en_40 rfl (number_calls (cutP p 4 8) _ (by have := cutP_len p 4 8; omega)) rfl ?_)
      rintro v6 w6 ⟨rfl, k6⟩
      replace kk := kk.no k6
      refine ⟨trivial, ?_⟩
      refine RunF.fork (i := 5) (j := 10) (by kernel_rfl) rfl rfl rfl rfl ?_ ?_
      · refine (Stp.callr en_40 rfl (number_calls (cutP p 8 10) _ (by have := cutP_len p 8 10; omega)) rfl ?_)
        rintro v9 w9 ⟨rfl, k9⟩
        replace kk := kk.no k9
        refine ⟨trivial, ?_⟩
        refine RunF.fork (i := 8) (j := 10) (by kernel_rfl) rfl rfl rfl rfl ?_ ?_
        · refine (Stp.callr en_40 rfl (number_calls (cutP p 10 12) _ (by have := cutP_len p 10 12; omega)) rfl ?_)
          rintro v12 w12 ⟨rfl, k12⟩
          replace kk := kk.no k12
          refine ⟨trivial, ?_⟩
          refine RunF.of [(9, true), (10, false), (11, false)] (by kernel_rfl) rfl ?_
          refine RunD.ev rfl (fun w' hS => (Ev.build (vs := [(0, natv (unbe (cutP p 4 8))), (1, natv (unbe (cutP p 8 10))), (2, natv (unbe (cutP p 10 12)))]) (v := rootV (unbe (cutP p 4 8), unbe (cutP p 8 10), unbe (cutP p 10 12))) rfl rfl (by kernel_rfl))) trivial rfl rfl ?_
          refine RunD.step rfl rfl (Stp.alloc zc_46 rfl ?_)
          intro a3 w3 e3 k3 b3 z3
          have ha3 : w2.heap.size ≤ a3 := e3 ▸ kk.size
          replace kk := kk.no k3
          refine ⟨trivial, ?_⟩
          refine RunD.step rfl rfl (Stp.storeA ag_46 rfl rfl rfl (by simp [natv, Value.oneCell']) b3 (by simp) ?_)
          intro wS kS bS zS
          refine ⟨trivial, RunD.nil ?_⟩
          exact fun a ha => ⟨rfl, a3, ha.weak (Env.sub_cons rfl (Env.sub_cons rfl (Env.sub_cons rfl (Env.sub_nil _)))), kk.new kS (by rintro i rfl; exact ha3), ha3, bS⟩
        · refine (Stp.alloc zc_46 rfl ?_)
          intro a3 w3 e3 k3 b3 z3
          have ha3 : w2.heap.size ≤ a3 := e3 ▸ kk.size
          replace kk := kk.no k3
          refine ⟨trivial, ?_⟩
          refine RunF.of [(8, false), (9, true), (11, false)] (by kernel_rfl) rfl ?_
          refine RunD.step rfl rfl (Stp.callr en_40 rfl (number_calls (cutP p 10 12) _ (by have := cutP_len p 10 12; omega)) rfl ?_)
          rintro v12 w12 ⟨rfl, k12⟩
          replace kk := kk.no k12
          refine ⟨trivial, ?_⟩
          replace b3 := k12.at0 b3
          refine RunD.ev rfl (fun w' hS => (Ev.build (vs := [(0, natv (unbe (cutP p 4 8))), (1, natv (unbe (cutP p 8 10))), (2, natv (unbe (cutP p 10 12)))]) (v := rootV (unbe (cutP p 4 8), unbe (cutP p 8 10), unbe (cutP p 10 12))) rfl rfl (by kernel_rfl))) trivial rfl rfl ?_
          refine RunD.step rfl rfl (Stp.storeA ag_46 rfl rfl rfl (by simp [natv, Value.oneCell']) b3 (by simp) ?_)
          intro wS kS bS zS
          refine ⟨trivial, RunD.nil ?_⟩
          exact fun a ha => ⟨rfl, a3, ha.weak (Env.sub_cons rfl (Env.sub_cons rfl (Env.sub_cons rfl (Env.sub_nil _)))), kk.new kS (by rintro i rfl; exact ha3), ha3, bS⟩
      · refine (Stp.alloc zc_46 rfl ?_)
        intro a3 w3 e3 k3 b3 z3
        have ha3 : w2.heap.size ≤ a3 := e3 ▸ kk.size
        replace kk := kk.no k3
        refine ⟨trivial, ?_⟩
        refine RunF.of [(5, false), (8, false), (9, true), (11, false)] (by kernel_rfl) rfl ?_
        refine RunD.step rfl rfl (Stp.callr en_40 rfl (number_calls (cutP p 8 10) _ (by have := cutP_len p 8 10; omega)) rfl ?_)
        rintro v9 w9 ⟨rfl, k9⟩
        replace kk := kk.no k9
        refine ⟨trivial, ?_⟩
        replace b3 := k9.at0 b3
        refine RunD.step rfl rfl (Stp.callr en_40 rfl (number_calls (cutP p 10 12) _ (by have := cutP_len p 10 12; omega)) rfl ?_)
        rintro v12 w12 ⟨rfl, k12⟩
        replace kk := kk.no k12
        refine ⟨trivial, ?_⟩
        replace b3 := k12.at0 b3
        refine RunD.ev rfl (fun w' hS => (Ev.build (vs := [(0, natv (unbe (cutP p 4 8))), (1, natv (unbe (cutP p 8 10))), (2, natv (unbe (cutP p 10 12)))]) (v := rootV (unbe (cutP p 4 8), unbe (cutP p 8 10), unbe (cutP p 10 12))) rfl rfl (by kernel_rfl))) trivial rfl rfl ?_
        refine RunD.step rfl rfl (Stp.storeA ag_46 rfl rfl rfl (by simp [natv, Value.oneCell']) b3 (by simp) ?_)
        intro wS kS bS zS
        refine ⟨trivial, RunD.nil ?_⟩
        exact fun a ha => ⟨rfl, a3, ha.weak (Env.sub_cons rfl (Env.sub_cons rfl (Env.sub_cons rfl (Env.sub_nil _)))), kk.new kS (by rintro i rfl; exact ha3), ha3, bS⟩
    · refine (Stp.alloc zc_46 rfl ?_)
      intro a3 w3 e3 k3 b3 z3
      have ha3 : w2.heap.size ≤ a3 := e3 ▸ kk.size
      replace kk := kk.no k3
      refine ⟨trivial, ?_⟩
      refine RunF.of [(2, false), (5, false), (8, false), (9, true), (11, false)] (by kernel_rfl) rfl ?_
      refine RunD.step rfl rfl (Stp.callr en_40 rfl (number_calls (cutP p 4 8) _ (by have := cutP_len p 4 8; omega)) rfl ?_)
      rintro v6 w6 ⟨rfl, k6⟩
      replace kk := kk.no k6
      refine ⟨trivial, ?_⟩
      replace b3 := k6.at0 b3
      refine RunD.step rfl rfl (Stp.callr en_40 rfl (number_calls (cutP p 8 10) _ (by have := cutP_len p 8 10; omega)) rfl ?_)
      rintro v9 w9 ⟨rfl, k9⟩
      replace kk := kk.no k9
      refine ⟨trivial, ?_⟩
      replace b3 := k9.at0 b3
      refine RunD.step rfl rfl (Stp.callr en_40 rfl (number_calls (cutP p 10 12) _ (by have := cutP_len p 10 12; omega)) rfl ?_)
      rintro v12 w12 ⟨rfl, k12⟩
      replace kk := kk.no k12
      refine ⟨trivial, ?_⟩
      replace b3 := k12.at0 b3
      refine RunD.ev rfl (fun w' hS => (Ev.build (vs := [(0, natv (unbe (cutP p 4 8))), (1, natv (unbe (cutP p 8 10))), (2, natv (unbe (cutP p 10 12)))]) (v := rootV (unbe (cutP p 4 8), unbe (cutP p 8 10), unbe (cutP p 10 12))) rfl rfl (by kernel_rfl))) trivial rfl rfl ?_
      refine RunD.step rfl rfl (Stp.storeA ag_46 rfl rfl rfl (by simp [natv, Value.oneCell']) b3 (by simp) ?_)
      intro wS kS bS zS
      refine ⟨trivial, RunD.nil ?_⟩
      exact fun a ha => ⟨rfl, a3, ha.weak (Env.sub_cons rfl (Env.sub_cons rfl (Env.sub_cons rfl (Env.sub_nil _)))), kk.new kS (by rintro i rfl; exact ha3), ha3, bS⟩
  rintro a3 w12 ⟨k12, ha3, b3⟩
  replace b2 := k12.at0 b2
  refine At.then ?_
  refine W.seq ?_
  have h1 := unbe_cut p 4 8 (by omega)
  have h2 := unbe_cut p 8 10 (by omega)
  have h3 := unbe_cut p 10 12 (by omega)
  -- region 2 (layout.go:93)
  refine W.region ?_
  refine Run.ev (Ev.fieldAddr fo_46_0 rfl rfl) rfl rfl ?_   -- t14
  refine Run.ev (Ev.load sc_3 rfl (cell_of b3 rfl)) rfl rfl ?_   -- t15
  refine Run.ev (Ev.geq rfl rfl rfl) rfl rfl ?_   -- t16
  refine Run.ev (Ev.move rfl) rfl rfl ?_   -- t17
  refine Run.evg rfl rfl (fun hg => (Ev.fieldAddr fo_46_0 rfl rfl)) rfl ?_   -- t18
  refine Run.evg rfl rfl (fun hg => (Ev.load sc_3 (ifp hg) (cell_of b3 rfl))) rfl ?_   -- t19
  refine Run.evg rfl rfl (fun hg => (Ev.leq (ifp hg) rfl rfl)) rfl ?_   -- t20
  refine Run.ev (Ev.pick_and rfl rfl rfl) rfl rfl ?_   -- t21
  refine Run.ev (Ev.move rfl) rfl rfl ?_   -- t22
  refine Run.evg rfl rfl (fun hg => (Ev.loadA ag_46 rfl b3 rfl rfl)) rfl ?_   -- t23
  refine Run.callg en_19 rfl rfl (fun hg => by simp only [Env.evs, Env.ev, Env.get?]; rw [if_pos hg]; rfl) (fun hg => page_calls (unbe (cutP p 4 8)) (unbe (cutP p 8 10)) (unbe (cutP p 10 12)) _ (by omega) (by omega) (by omega)) rfl ?_   -- t24
  intro w24 k24
  refine Run.evg rfl rfl (fun hg => (Ev.move rfl)) rfl ?_   -- t25
  refine Run.evg rfl rfl (fun hg => (Ev.seql (ifp hg) (ifp hg) rfl)) rfl ?_   -- t26
  refine Run.ev (Ev.pick_and rfl rfl rfl) rfl rfl ?_   -- t27
  refine Run.step rfl (Stp.callo en_41 rfl (need_calls _ _) rfl (fun hn w' kk => by (repeat (first | apply At.then_panic | apply At.block_panic)); exact At.pan rfl (by rw [rootOfP, if_neg]; rintro ⟨⟨h4, h5⟩, h6⟩; simp at hn; exact hn (by omega) (by omega) h6) (((k2.no k12).no k24).no kk)) ?_)   -- t28
  rintro x28 v28 w28 hn rfl
  have hok : rootOfP p = some (unbe (cutP p 4 8), unbe (cutP p 8 10), unbe (cutP p 10 12)) := by
    rw [rootOfP, if_pos]
    simp at hn
    exact ⟨⟨by omega, by omega⟩, hn.2.2⟩
  refine Run.nil ?_
  refine At.then ?_
  refine W.seq ?_
  -- region 3 (layout.go:94)
  refine W.region ?_
  refine Run.ev (Ev.loadA ag_46 rfl (k24.at0 b3) rfl rfl) rfl rfl ?_   -- t29
  refine Run.step rfl (Stp.storeA ag_46 rfl rfl rfl (by simp [natv, Value.oneCell']) (k24.at0 b2) (by simp) ?_)   -- tNone
  intro wS kS bS zS
  refine Run.nil ?_
  refine At.then ?_
  refine W.ret ?_
  exact At.retA (.inl rfl) rfl rfl rfl ag_46 bS rfl ⟨_, hok, rfl, ((k2.no k12).no k24).new kS (by rintro i rfl; omega)⟩

end Go.Proofs.YtlcgeepjekcfgaaGreat
