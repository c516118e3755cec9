/- Stores: what changes the files of now. -/
import Derived.Test.YtlcgeepjekcfgaaGreatS
namespace Go.Proofs.YtlcgeepjekcfgaaGreat
open Go.RowKit
set_option linter.unusedVariables false
set_option linter.unusedSimpArgs false


def writeP (now : List (Bs × Bs)) (name data : Bs) : Nat × List (Bs × Bs) := if isNameP name = false then (7, now) else if 4000 < data.length ∨ (mget now name = none ∧ now.length = 30) then (2, now) else (0, mset now name data)
def appendP (now : List (Bs × Bs)) (name data : Bs) : Nat × List (Bs × Bs) := match mget now name with
  | none => (5, now)
  | some old => if 4000 < old.length + data.length then (2, now) else (0, mset now name (old ++ data))
def removeP (now : List (Bs × Bs)) (name : Bs) : Nat × List (Bs × Bs) := match mget now name with
  | none => (5, now)
  | some _ => (0, mdel now name)
def renameP (now : List (Bs × Bs)) (a b : Bs) : Nat × List (Bs × Bs) := match mget now a with
  | none => (5, now)
  | some d => if isNameP b = false then (7, now) else if (mget now b).isSome = true ∧ b ≠ a then (6, now) else (0, mset (mdel now a) b d)
def OpRes (b : Nat) (t : Sto) (w : World) (r : Nat × List (Bs × Bs)) (v : Value) (w' : World) : Prop := v = natv r.1 ∧ StoR b { t with now := r.2 } w' ∧ Kt (fun i => i = t.mn) w w'
theorem StoR.putNow {b : Nat} {t : Sto} {w w' : World} {now : List (Bs × Bs)} (h : StoR b t w) (hk : Kt (fun i => i = t.mn) w w') (hm : MapR str w' t.mn (nowV now)) : StoR b { t with now := now } w' :=
  ⟨((h.q.kt hk (Ne.symm (h.hmn.ne_cells h.q.hb)) h.hne (Ne.symm (h.hmn.ne_own h.q.hpg)) (fun i hi e => h.hmn.ne_own2 h.q.hev hi e) (by rintro i rfl; exact h.hmn.objne)).upd now t.mn), hm, h.hne⟩
theorem OpRes.keep {b : Nat} {t : Sto} {w w' : World} {e : Nat} (h : StoR b t w) (hk : Kt No w w') : OpRes b t w (e, t.now) (natv e) w' := ⟨rfl, h.kt0 hk, hk.mono (fun _ _ e => e.elim)⟩
theorem OpRes.put {b : Nat} {t : Sto} {w w1 w' : World} {now : List (Bs × Bs)} (h : StoR b t w1) (hw : Kt No w w1) (hk : Kt (fun i => i = t.mn) w1 w') (hm : MapR str w' t.mn (nowV now)) : OpRes b t w (0, now) (natv 0) w' :=
  ⟨rfl, h.putNow hk hm, (hw.mono (fun _ _ e => e.elim)).trans hk (fun i _ e => e)⟩
theorem OpRes.after {b : Nat} {t : Sto} {w w1 w' : World} {r : Nat × List (Bs × Bs)} {v : Value} (h : OpRes b t w1 r v w') (hw : Kt No w w1) : OpRes b t w r v w' := ⟨h.1, h.2.1, (hw.mono (fun _ _ e => e.elim)).trans h.2.2 (fun i _ e => e)⟩
theorem now_look (now : List (Bs × Bs)) (name : Bs) : mget (nowV now) name = (mget now name).map str := mget_map str now name
theorem now_put (now : List (Bs × Bs)) (name data : Bs) : mset (nowV now) name (str data) = nowV (mset now name data) := mset_map str now name data
theorem now_del (now : List (Bs × Bs)) (name : Bs) : mdel (nowV now) name = nowV (mdel now name) := mdel_map str now name


theorem At.retcs {X : Cx} {E : Env} {w : World} {fn : Func} {R : Ending → World → Prop} {t u ty : Nat} {p : Addr} {v v' : Value} {e : Exit} (he : e = .ret ∨ e = .normal) (hf : fn.results = #[.cell t ty, .tmp u]) (hd : X.ds = []) (hv : E.get? t = some (.pointer (some p))) (hv' : E.get? u = some v') (ht : scal ty = true) (hc : w.cell? p = some v) (h : R (.returned (.tuple #[v, v'])) w) : At X (bodyPost P fn R) e E w :=
  At.res he hd (fun a ha => by
    have h1 := ha.get t _ hv
    have h3 := ha.get u _ hv'
    have h2 := run_loadVar_scal (w := w) ht hc
    simp [results, hf, h1, h3, asAddr, h2]) h


theorem retmono {R R' : Value → World → Prop} (h : ∀ v w, R v w → R' v w) : ∀ e w, Ret R e w → Ret R' e w := fun e w hr => by
  cases e with
  | returned v => exact h v w hr
  | panicked c => exact hr.elim
  | outgrown => exact hr.elim

theorem with_calls (b : Nat) (t : Sto) (name : Bs) (k : FuncId) (cap : Array Value) (w : World) (h : StoR b t w) (R : Value → World → Prop) (hen : Enters P k) (h0 : mget t.now name = none → R (natv 5) w)
    (h1 : ∀ data, mget t.now name = some data → Calls P k (str data :: cap.toList).toArray w (Ret R)) : Calls P 47 [.pointer (some ⟨b, 0, none⟩), str name, .func (.func k) #[] cap].toArray w (Ret R) := by
  refine enterW 23 Tryz.func47 rfl rfl rfl ?_
  refine W.seq ?_
  -- region 0 (store.go:51)
  refine W.region ?_
  refine Run.ev (Ev.assign rfl) rfl rfl ?_   -- t6
  refine Run.nil ?_
  refine At.then ?_
  refine W.seq ?_
  -- region 1 (store.go:52)
  refine W.region ?_
  refine Run.ev (Ev.move rfl) rfl rfl ?_   -- t10
  refine Run.ev (Ev.nilCheck rfl) rfl rfl ?_   -- t11
  refine Run.ev (Ev.fieldAddr fo_57_2 rfl rfl) rfl rfl ?_   -- t12
  refine Run.ev (Ev.load sc_54 rfl (cell_of h.q.hb rfl)) rfl rfl ?_   -- t13
  refine Run.ev (Ev.move rfl) rfl rfl ?_   -- t14
  refine Run.ev (Ev.lookup (m := nowV t.now) (k := name) (ok := true) keyStr Tryz.underlying54 Tryz.underlying9 zv_9 rfl rfl h.hmn) rfl rfl ?_   -- t15
  refine Run.ev (Ev.move rfl) rfl rfl ?_   -- t9
  refine Run.ev (Ev.extract rfl rfl) rfl rfl ?_   -- t16
  refine Run.ev (Ev.extract rfl rfl) rfl rfl ?_   -- t17
  refine Run.ev (Ev.assign rfl) rfl rfl ?_   -- t7
  refine Run.ev (Ev.assign rfl) rfl rfl ?_   -- t8
  refine Run.nil ?_
  refine At.then ?_
  refine W.seq ?_
  refine W.seq ?_
  -- region 2 (store.go:53)
  refine W.region ?_
  refine Run.ev (Ev.move rfl) rfl rfl ?_   -- t18
  refine Run.ev (Ev.not rfl) rfl rfl ?_   -- t19
  refine Run.nil ?_
  refine At.then ?_
  refine W.cond rfl (fun hc19 => ?_) (fun hc19 => ?_)
  · have hn : mget t.now name = none := by
      rw [now_look] at hc19
      cases hg : mget t.now name with
      | none => rfl
      | some d => rw [hg] at hc19; cases hc19
    refine W.seq ?_
    -- region 3 (store.go:54)
    refine W.region ?_
    refine Run.ev (Ev.assign rfl) rfl rfl ?_   -- t6
    refine Run.nil ?_
    refine At.then ?_
    refine W.ret ?_
    refine At.then_ret ?_
    exact At.ret1 rfl rfl rfl (h0 hn)
  · obtain ⟨data, hn⟩ : ∃ data, mget t.now name = some data := by
      rw [now_look] at hc19
      cases hg : mget t.now name with
      | none => rw [hg] at hc19; cases hc19
      | some d => exact ⟨d, rfl⟩
    refine W.skip ?_
    refine At.then ?_
    refine W.seq ?_
    -- region 4 (store.go:56)
    refine W.region ?_
    refine Run.ev (Ev.move rfl) rfl rfl ?_   -- t20
    refine Run.ev (Ev.to (v' := str data) (by rw [now_look, hn]; rfl) (Ev.move rfl)) rfl rfl ?_   -- t21
    refine Run.step rfl (Stp.callv (vs := [str data]) hen rfl rfl (h1 data hn) rfl ?_ (fun _ _ h => h.elim) (fun _ h => h.elim))   -- t22
    intro v22 w22 hR
    refine Run.ev (Ev.assign rfl) rfl rfl ?_   -- t6
    refine Run.nil ?_
    refine At.then ?_
    refine W.ret ?_
    exact At.ret1 rfl rfl rfl hR

theorem read1_calls (data : Bs) (a : Nat) (v0 : Value) (w : World) (ha : w.heap[a]? = some (.cells #[v0] 9 (0, 0))) : Calls P 64 [str data, .pointer (some ⟨a, 0, none⟩)].toArray w (Ret fun v w' => v = natv 0 ∧ Kt (fun i => i = a) w w' ∧ w'.heap[a]? = some (.cells #[str data] 9 (0, 0))) := by
  refine enterW 5 Tryz.func64 rfl rfl rfl ?_
  refine W.seq ?_
  -- region 0 (store.go:61)
  refine W.region ?_
  refine Run.ev (Ev.assign rfl) rfl rfl ?_   -- t3
  refine Run.nil ?_
  refine At.then ?_
  refine W.seq ?_
  -- region 1 (store.go:62)
  refine W.region ?_
  refine Run.ev (Ev.move rfl) rfl rfl ?_   -- t4
  refine Run.step rfl (Stp.store sc_9 sz_9 rfl rfl rfl ha (by simp) ?_)   -- tNone
  intro wS kS bS zS
  refine Run.nil ?_
  refine At.then ?_
  refine W.seq ?_
  -- region 2 (store.go:63)
  refine W.region ?_
  refine Run.ev (Ev.assign rfl) rfl rfl ?_   -- t3
  refine Run.nil ?_
  refine At.then ?_
  refine W.ret ?_
  exact At.ret1 rfl rfl rfl ⟨rfl, kS, bS⟩

theorem Read_calls (b : Nat) (t : Sto) (name : Bs) (w : World) (h : StoR b t w) : Calls P 33 [.pointer (some ⟨b, 0, none⟩), str name].toArray w (Ret fun v w' => v = .tuple #[str ((mget t.now name).getD []), natv (match mget t.now name with | none => 5 | some _ => 0)] ∧ Kt No w w') := by
  refine enterW 12 Tryz.func33 rfl rfl rfl ?_
  refine W.seq ?_
  -- region 0 (store.go:60)
  refine W.region ?_
  refine Run.step rfl (Stp.alloc zc_9 rfl ?_)   -- t4
  intro a4 w4 e4 k4 b4 z4
  refine Run.ev (Ev.assign rfl) rfl rfl ?_   -- t5
  refine Run.nil ?_
  refine At.then ?_
  refine W.seq ?_
  -- region 1 (store.go:61)
  refine W.region ?_
  refine Run.ev (Ev.move rfl) rfl rfl ?_   -- t6
  refine Run.ev (Ev.move rfl) rfl rfl ?_   -- t7
  refine Run.ev (Ev.mkfunc rfl) rfl rfl ?_   -- t8
  refine Run.step rfl (Stp.callr en_47 rfl (with_calls b t name 64 #[.pointer (some ⟨a4, 0, none⟩)] w4 (h.kt0 k4) (fun v w' => v = natv (match mget t.now name with | none => 5 | some _ => 0) ∧ Kt (fun i => i = a4) w4 w' ∧ w'.heap[a4]? = some (.cells #[str ((mget t.now name).getD [])] 9 (0, 0))) en_64 (fun hn => by rw [hn]; exact ⟨rfl, Kt.refl _ _, b4⟩) (fun data hn => by rw [hn]; exact read1_calls data a4 _ w4 b4)) rfl ?_)   -- t9
  rintro v9 w9 ⟨rfl, k9, b9⟩
  refine Run.ev (Ev.assign rfl) rfl rfl ?_   -- t5
  refine Run.nil ?_
  refine At.then ?_
  refine W.seq ?_
  -- region 2 (store.go:65)
  refine W.region ?_
  refine Run.ev (Ev.load sc_9 rfl (cell_of b9 rfl)) rfl rfl ?_   -- t10
  refine Run.ev (Ev.move rfl) rfl rfl ?_   -- t11
  refine Run.step rfl (Stp.store sc_9 sz_9 rfl rfl rfl b9 (by simp) ?_)   -- tNone
  intro wS kS bS zS
  refine Run.ev (Ev.assign rfl) rfl rfl ?_   -- t5
  refine Run.nil ?_
  refine At.then ?_
  refine W.ret ?_
  exact At.retcs (.inl rfl) rfl rfl rfl rfl sc_9 (cell_of bS rfl) ⟨rfl, (k4.new k9 (by rintro i rfl; omega)).new kS (by rintro i rfl; omega)⟩

theorem Write_calls (b : Nat) (t : Sto) (name data : Bs) (w : World) (h : StoR b t w) (hn : name.length ≤ 1000000) (hd : data.length ≤ 1000000) : Calls P 23 [.pointer (some ⟨b, 0, none⟩), str name, str data].toArray w (Ret (OpRes b t w (writeP t.now name data))) := by
  refine enterW 42 Tryz.func23 rfl rfl rfl ?_
  refine W.seq ?_
  -- region 0 (store.go:69)
  refine W.region ?_
  refine Run.ev (Ev.assign rfl) rfl rfl ?_   -- t6
  refine Run.nil ?_
  refine At.then ?_
  refine W.seq ?_
  refine W.seq ?_
  -- region 1 (store.go:70)
  refine W.region ?_
  refine Run.ev (Ev.move rfl) rfl rfl ?_   -- t9
  refine Run.step rfl (Stp.callr en_42 rfl (isName_calls name w hn) rfl ?_)   -- t10
  rintro v10 w10 ⟨rfl, k10⟩
  have h0 := h
  replace h := h.kt0 k10
  refine Run.ev (Ev.not rfl) rfl rfl ?_   -- t11
  refine Run.nil ?_
  refine At.then ?_
  refine W.cond rfl (fun hc11 => ?_) (fun hc11 => ?_)
  · have hw : writeP t.now name data = (7, t.now) := by rw [writeP, if_pos (by simpa using hc11)]
    refine W.seq ?_
    -- region 2 (store.go:71)
    refine W.region ?_
    refine Run.ev (Ev.assign rfl) rfl rfl ?_   -- t6
    refine Run.nil ?_
    refine At.then ?_
    refine W.ret ?_
    refine At.then_ret ?_
    exact At.ret1 rfl rfl rfl (by rw [hw]; exact OpRes.keep h0 k10)
  · have hnm : ¬ isNameP name = false := by simpa using hc11
    refine W.skip ?_
    refine At.then ?_
    refine W.seq ?_
    refine W.seq ?_
    -- region 3 (store.go:73)
    refine W.region ?_
    refine Run.ev (Ev.move rfl) rfl rfl ?_   -- t13
    refine Run.ev (Ev.nilCheck rfl) rfl rfl ?_   -- t14
    refine Run.ev (Ev.fieldAddr fo_57_2 rfl rfl) rfl rfl ?_   -- t15
    refine Run.ev (Ev.load sc_54 rfl (cell_of h.q.hb rfl)) rfl rfl ?_   -- t16
    refine Run.ev (Ev.move rfl) rfl rfl ?_   -- t17
    refine Run.ev (Ev.lookup (m := nowV t.now) (k := name) (ok := true) keyStr Tryz.underlying54 Tryz.underlying9 zv_9 rfl rfl h.hmn) rfl rfl ?_   -- t18
    refine Run.ev (Ev.move rfl) rfl rfl ?_   -- t12
    refine Run.ev (Ev.extract rfl rfl) rfl rfl ?_   -- t19
    refine Run.ev (Ev.to (v' := .bool (mget t.now name).isSome) (by rw [now_look]; simp) (Ev.extract rfl rfl)) rfl rfl ?_   -- t20
    refine Run.ev (Ev.assign rfl) rfl rfl ?_   -- t7
    refine Run.ev (Ev.assign rfl) rfl rfl ?_   -- t8
    refine Run.nil ?_
    refine At.then ?_
    refine W.seq ?_
    -- region 4 (store.go:73)
    refine W.region ?_
    refine Run.ev (Ev.move rfl) rfl rfl ?_   -- t21
    refine Run.ev (Ev.slen rfl Tryz.underlying9) rfl rfl ?_   -- t22
    refine Run.ev (Ev.gtr rfl rfl rfl) rfl rfl ?_   -- t23
    refine Run.ev (Ev.move rfl) rfl rfl ?_   -- t24
    refine Run.evg rfl rfl (fun hg => (Ev.move rfl)) rfl ?_   -- t25
    refine Run.evg rfl rfl (fun hg => (Ev.not (ifp hg))) rfl ?_   -- t26
    refine Run.evg rfl rfl (fun hg => (Ev.move (ifp hg))) rfl ?_   -- t27
    refine Run.evh rfl rfl (fun hg => (Ev.move rfl)) rfl ?_   -- t28
    refine Run.evh rfl rfl (fun hg => (Ev.nilCheck (ifp hg))) rfl ?_   -- t29
    refine Run.evh rfl rfl (fun hg => (Ev.fieldAddr fo_57_2 (ifp hg) rfl)) rfl ?_   -- t30
    refine Run.evh rfl rfl (fun hg => (Ev.load sc_54 (ifp hg) (cell_of h.q.hb rfl))) rfl ?_   -- t31
    refine Run.evh rfl rfl (fun hg => (Ev.mlen (m := nowV t.now) Tryz.underlying54 (ifp hg) h.hmn)) rfl ?_   -- t32
    refine Run.evh rfl rfl (fun hg => (Ev.eql (ifp hg) rfl rfl)) rfl ?_   -- t33
    refine Run.evg rfl rfl (fun hg => (Ev.pick_andh hg rfl rfl rfl)) rfl ?_   -- t34
    refine Run.ev (Ev.pick_or rfl rfl rfl) rfl rfl ?_   -- t35
    refine Run.nil ?_
    refine At.then ?_
    refine W.cond rfl (fun hc35 => ?_) (fun hc35 => ?_)
    · have hw : writeP t.now name data = (2, t.now) := by
        rw [writeP, if_neg hnm, if_pos]
        simp [nowV] at hc35
        rcases hc35 with h1 | ⟨h1, h2⟩
        · left; omega
        · right; exact ⟨h1, by omega⟩
      refine W.seq ?_
      -- region 5 (store.go:74)
      refine W.region ?_
      refine Run.ev (Ev.assign rfl) rfl rfl ?_   -- t6
      refine Run.nil ?_
      refine At.then ?_
      refine W.ret ?_
      refine At.then_ret ?_
      exact At.ret1 rfl rfl rfl (by rw [hw]; exact OpRes.keep h0 k10)
    · have hw : writeP t.now name data = (0, mset t.now name data) := by
        rw [writeP, if_neg hnm, if_neg]
        simp [nowV] at hc35
        rintro (h1 | ⟨h1, h2⟩)
        · omega
        · have := hc35.2 h1; omega
      refine W.skip ?_
      refine At.then ?_
      refine W.seq ?_
      -- region 6 (store.go:76)
      refine W.region ?_
      refine Run.ev (Ev.move rfl) rfl rfl ?_   -- t36
      refine Run.ev (Ev.nilCheck rfl) rfl rfl ?_   -- t37
      refine Run.ev (Ev.fieldAddr fo_57_2 rfl rfl) rfl rfl ?_   -- t38
      refine Run.ev (Ev.load sc_54 rfl (cell_of h.q.hb rfl)) rfl rfl ?_   -- t39
      refine Run.ev (Ev.move rfl) rfl rfl ?_   -- t40
      refine Run.ev (Ev.move rfl) rfl rfl ?_   -- t41
      refine Run.step rfl (Stp.mapUpdate (k := name) keyStr Tryz.underlying54 Tryz.underlying9 rfl rfl rfl h.hmn ?_)   -- tNone
      intro wU kU bU zU
      rw [now_put] at bU
      refine Run.nil ?_
      refine At.then ?_
      refine W.seq ?_
      -- region 7 (store.go:77)
      refine W.region ?_
      refine Run.ev (Ev.assign rfl) rfl rfl ?_   -- t6
      refine Run.nil ?_
      refine At.then ?_
      refine W.ret ?_
      exact At.ret1 rfl rfl rfl (by rw [hw]; exact OpRes.put h k10 kU bU)

theorem append1_calls (b xb sb nb : Nat) (t : Sto) (name data old : Bs) (w : World) (h : StoR b t w) (hs : w.heap[sb]? = some (.cells #[.pointer (some ⟨b, 0, none⟩)] 30 (0, 0))) (hnb : w.heap[nb]? = some (.cells #[str name] 9 (0, 0))) (hx : w.heap[xb]? = some (.cells #[str data] 9 (0, 0))) (hl : old.length ≤ 1000000) (hd : data.length ≤ 1000000) (hg : mget t.now name = some old) : Calls P 48 [str old, .pointer (some ⟨xb, 0, none⟩), .pointer (some ⟨sb, 0, none⟩), .pointer (some ⟨nb, 0, none⟩)].toArray w (Ret (OpRes b t w (appendP t.now name data))) := by
  refine enterW 20 Tryz.func48 rfl rfl rfl ?_
  refine W.seq ?_
  -- region 0 (store.go:82)
  refine W.region ?_
  refine Run.ev (Ev.assign rfl) rfl rfl ?_   -- t5
  refine Run.nil ?_
  refine At.then ?_
  refine W.seq ?_
  refine W.seq ?_
  -- region 1 (store.go:83)
  refine W.region ?_
  refine Run.ev (Ev.move rfl) rfl rfl ?_   -- t6
  refine Run.ev (Ev.slen rfl Tryz.underlying9) rfl rfl ?_   -- t7
  refine Run.ev (Ev.load sc_9 rfl (cell_of hx rfl)) rfl rfl ?_   -- t8
  refine Run.ev (Ev.slen rfl Tryz.underlying9) rfl rfl ?_   -- t9
  refine Run.ev (Ev.add rfl rfl (by omega)) rfl rfl ?_   -- t10
  refine Run.ev (Ev.gtr rfl rfl rfl) rfl rfl ?_   -- t11
  refine Run.nil ?_
  refine At.then ?_
  refine W.cond rfl (fun hc11 => ?_) (fun hc11 => ?_)
  · replace hc11 := of_decide_eq_true hc11
    have hw : appendP t.now name data = (2, t.now) := by
      rw [appendP, hg]; simp only; rw [if_pos (by omega)]
    refine W.seq ?_
    -- region 2 (store.go:84)
    refine W.region ?_
    refine Run.ev (Ev.assign rfl) rfl rfl ?_   -- t5
    refine Run.nil ?_
    refine At.then ?_
    refine W.ret ?_
    refine At.then_ret ?_
    exact At.ret1 rfl rfl rfl (by rw [hw]; exact OpRes.keep h (Kt.refl _ _))
  · replace hc11 := of_decide_eq_false hc11
    have hw : appendP t.now name data = (0, mset t.now name (old ++ data)) := by
      rw [appendP, hg]; simp only; rw [if_neg (by omega)]
    refine W.skip ?_
    refine At.then ?_
    refine W.seq ?_
    -- region 3 DRAWS (store.go:86)
    refine W.draw (fun w' => w'.heap[b]? = some (.cells (t.cells (.map (some t.mn))) 57 (0, 0)) ∧ w'.heap[sb]? = some (.cells #[.pointer (some ⟨b, 0, none⟩)] 30 (0, 0)) ∧ w'.heap[nb]? = some (.cells #[str name] 9 (0, 0)) ∧ w'.heap[xb]? = some (.cells #[str data] 9 (0, 0))) [(0, true), (1, true), (2, true), (3, true), (4, true), (5, true), (6, true), (7, true), (8, false)] (by repeat (first | exact PQ.body | with_reducible apply PQ.then | with_reducible apply PQ.block)) (by kernel_rfl) (by kernel_rfl) (by kernel_rfl) rfl ?_
    have kd := (Kt.refl No w).drew
    have hS0 : w.drew.heap[b]? = some (.cells (t.cells (.map (some t.mn))) 57 (0, 0)) ∧ w.drew.heap[sb]? = some (.cells #[.pointer (some ⟨b, 0, none⟩)] 30 (0, 0)) ∧ w.drew.heap[nb]? = some (.cells #[str name] 9 (0, 0)) ∧ w.drew.heap[xb]? = some (.cells #[str data] 9 (0, 0)) := ⟨h.q.hb, hs, hnb, hx⟩
    refine RunD.ev rfl (fun w' hS => (Ev.load sc_30 rfl (cell_of hS.2.1 rfl))) hS0 rfl rfl ?_   -- t12
    refine RunD.ev rfl (fun w' hS => (Ev.nilCheck rfl)) hS0 rfl rfl ?_   -- t13
    refine RunD.ev rfl (fun w' hS => (Ev.fieldAddr fo_57_2 rfl rfl)) hS0 rfl rfl ?_   -- t14
    refine RunD.ev rfl (fun w' hS => (Ev.load sc_54 rfl (cell_of hS.1 rfl))) hS0 rfl rfl ?_   -- t15
    refine RunD.ev rfl (fun w' hS => (Ev.load sc_9 rfl (cell_of hS.2.2.1 rfl))) hS0 rfl rfl ?_   -- t16
    refine RunD.ev rfl (fun w' hS => (Ev.move rfl)) hS0 rfl rfl ?_   -- t17
    refine RunD.ev rfl (fun w' hS => (Ev.load sc_9 rfl (cell_of hS.2.2.2 rfl))) hS0 rfl rfl ?_   -- t18
    refine RunD.ev rfl (fun w' hS => (Ev.sadd (p := old) (q := data) rfl rfl (by omega))) hS0 rfl rfl ?_   -- t19
    refine RunD.step rfl rfl (Stp.mapUpdate (k := name) keyStr Tryz.underlying54 Tryz.underlying9 rfl rfl rfl (h.hmn.kt0 kd) ?_)   -- tNone
    intro wU kU bU zU
    replace bU : MapR str wU t.mn (mset (nowV t.now) name (str (old ++ data))) := bU
    rw [now_put] at bU
    replace hS0 : _ ∧ _ ∧ _ ∧ _ := ⟨kU.at hS0.1 (Ne.symm (h.hmn.ne_cells h.q.hb)), kU.at hS0.2.1 (Ne.symm (h.hmn.ne_cells hs)), kU.at hS0.2.2.1 (Ne.symm (h.hmn.ne_cells hnb)), kU.at hS0.2.2.2 (Ne.symm (h.hmn.ne_cells hx))⟩
    refine ⟨hS0, ?_⟩
    refine RunD.nil ?_
    refine At.then ?_
    refine W.seq ?_
    -- region 4 (store.go:87)
    refine W.region ?_
    refine Run.ev (Ev.assign rfl) rfl rfl ?_   -- t5
    refine Run.nil ?_
    refine At.then ?_
    refine W.ret ?_
    exact At.ret1 rfl rfl rfl (by rw [hw]; exact OpRes.put (h.kt0 kd) kd kU bU)

theorem Append_calls (b : Nat) (t : Sto) (name data : Bs) (w : World) (h : StoR b t w) (hall : ∀ n d, mget t.now n = some d → d.length ≤ 1000000) (hd : data.length ≤ 1000000) : Calls P 25 [.pointer (some ⟨b, 0, none⟩), str name, str data].toArray w (Ret (OpRes b t w (appendP t.now name data))) := by
  refine enterW 11 Tryz.func25 rfl rfl rfl ?_
  refine W.seq ?_
  -- region 0 (store.go:81)
  refine W.region ?_
  refine Run.step rfl (Stp.box rfl rfl ?_)   -- t3
  intro a3 w3 e3 k3 b3 z3
  refine Run.step rfl (Stp.box rfl rfl ?_)   -- t4
  intro a4 w4 e4 k4 b4 z4
  replace b3 := k4.at0 b3
  refine Run.step rfl (Stp.box rfl rfl ?_)   -- t5
  intro a5 w5 e5 k5 b5 z5
  replace b3 := k5.at0 b3
  replace b4 := k5.at0 b4
  have kw := (k3.no k4).no k5
  refine Run.ev (Ev.assign rfl) rfl rfl ?_   -- t6
  refine Run.nil ?_
  refine At.then ?_
  refine W.seq ?_
  -- region 1 (store.go:82)
  refine W.region ?_
  refine Run.ev (Ev.load sc_30 rfl (cell_of b3 rfl)) rfl rfl ?_   -- t7
  refine Run.ev (Ev.load sc_9 rfl (cell_of b4 rfl)) rfl rfl ?_   -- t8
  refine Run.ev (Ev.mkfunc rfl) rfl rfl ?_   -- t9
  refine Run.step rfl (Stp.callr en_47 rfl (with_calls b t name 48 _ w5 (h.kt0 kw) (OpRes b t w (appendP t.now name data)) en_48 (fun hn => by rw [appendP, hn]; exact OpRes.keep h kw) (fun old hn => Calls.mono (append1_calls b a5 a3 a4 t name data old w5 (h.kt0 kw) b3 b4 b5 (hall _ _ hn) hd hn) (retmono (fun v w' hr => hr.after kw)))) rfl ?_)   -- t10
  intro v10 w10 hR
  refine Run.ev (Ev.assign rfl) rfl rfl ?_   -- t6
  refine Run.nil ?_
  refine At.then ?_
  refine W.ret ?_
  exact At.ret1 rfl rfl rfl hR

theorem remove1_calls (b sb nb : Nat) (t : Sto) (name old : Bs) (w : World) (h : StoR b t w) (hs : w.heap[sb]? = some (.cells #[.pointer (some ⟨b, 0, none⟩)] 30 (0, 0))) (hnb : w.heap[nb]? = some (.cells #[str name] 9 (0, 0))) (hg : mget t.now name = some old) : Calls P 49 [str old, .pointer (some ⟨sb, 0, none⟩), .pointer (some ⟨nb, 0, none⟩)].toArray w (Ret (OpRes b t w (removeP t.now name))) := by
  refine enterW 10 Tryz.func49 rfl rfl rfl ?_
  refine W.seq ?_
  -- region 0 (store.go:93)
  refine W.region ?_
  refine Run.ev (Ev.assign rfl) rfl rfl ?_   -- t4
  refine Run.nil ?_
  refine At.then ?_
  refine W.seq ?_
  have hw : removeP t.now name = (0, mdel t.now name) := by rw [removeP, hg]
  -- region 1 DRAWS (store.go:94)
  refine W.draw (fun w' => w'.heap[b]? = some (.cells (t.cells (.map (some t.mn))) 57 (0, 0)) ∧ w'.heap[sb]? = some (.cells #[.pointer (some ⟨b, 0, none⟩)] 30 (0, 0)) ∧ w'.heap[nb]? = some (.cells #[str name] 9 (0, 0))) [(0, true), (1, true), (2, true), (3, true), (4, true), (5, false)] (by repeat (first | exact PQ.body | with_reducible apply PQ.then | with_reducible apply PQ.block)) (by kernel_rfl) (by kernel_rfl) (by kernel_rfl) rfl ?_
  have kd := (Kt.refl No w).drew
  have hS0 : w.drew.heap[b]? = some (.cells (t.cells (.map (some t.mn))) 57 (0, 0)) ∧ w.drew.heap[sb]? = some (.cells #[.pointer (some ⟨b, 0, none⟩)] 30 (0, 0)) ∧ w.drew.heap[nb]? = some (.cells #[str name] 9 (0, 0)) := ⟨h.q.hb, hs, hnb⟩
  refine RunD.ev rfl (fun w' hS => (Ev.load sc_30 rfl (cell_of hS.2.1 rfl))) hS0 rfl rfl ?_   -- t5
  refine RunD.ev rfl (fun w' hS => (Ev.nilCheck rfl)) hS0 rfl rfl ?_   -- t6
  refine RunD.ev rfl (fun w' hS => (Ev.fieldAddr fo_57_2 rfl rfl)) hS0 rfl rfl ?_   -- t7
  refine RunD.ev rfl (fun w' hS => (Ev.load sc_54 rfl (cell_of hS.1 rfl))) hS0 rfl rfl ?_   -- t8
  refine RunD.ev rfl (fun w' hS => (Ev.load sc_9 rfl (cell_of hS.2.2 rfl))) hS0 rfl rfl ?_   -- t9
  refine RunD.step rfl rfl (Stp.delete (k := name) rfl keyStr Tryz.underlying54 Tryz.underlying9 rfl rfl (h.hmn.kt0 kd) ?_)   -- tNone
  intro wU kU bU zU
  rw [now_del] at bU
  replace hS0 : _ ∧ _ ∧ _ := ⟨kU.at hS0.1 (Ne.symm (h.hmn.ne_cells h.q.hb)), kU.at hS0.2.1 (Ne.symm (h.hmn.ne_cells hs)), kU.at hS0.2.2 (Ne.symm (h.hmn.ne_cells hnb))⟩
  refine ⟨hS0, ?_⟩
  refine RunD.nil ?_
  refine At.then ?_
  refine W.seq ?_
  -- region 2 (store.go:95)
  refine W.region ?_
  refine Run.ev (Ev.assign rfl) rfl rfl ?_   -- t4
  refine Run.nil ?_
  refine At.then ?_
  refine W.ret ?_
  exact At.ret1 rfl rfl rfl (by rw [hw]; exact OpRes.put (h.kt0 kd) kd kU bU)

theorem Remove_calls (b : Nat) (t : Sto) (name : Bs) (w : World) (h : StoR b t w) : Calls P 26 [.pointer (some ⟨b, 0, none⟩), str name].toArray w (Ret (OpRes b t w (removeP t.now name))) := by
  refine enterW 9 Tryz.func26 rfl rfl rfl ?_
  refine W.seq ?_
  -- region 0 (store.go:92)
  refine W.region ?_
  refine Run.step rfl (Stp.box rfl rfl ?_)   -- t2
  intro a2 w2 e2 k2 b2 z2
  refine Run.step rfl (Stp.box rfl rfl ?_)   -- t3
  intro a3 w3 e3 k3 b3 z3
  replace b2 := k3.at0 b2
  have kw := k2.no k3
  refine Run.ev (Ev.assign rfl) rfl rfl ?_   -- t4
  refine Run.nil ?_
  refine At.then ?_
  refine W.seq ?_
  -- region 1 (store.go:93)
  refine W.region ?_
  refine Run.ev (Ev.load sc_30 rfl (cell_of b2 rfl)) rfl rfl ?_   -- t5
  refine Run.ev (Ev.load sc_9 rfl (cell_of b3 rfl)) rfl rfl ?_   -- t6
  refine Run.ev (Ev.mkfunc rfl) rfl rfl ?_   -- t7
  refine Run.step rfl (Stp.callr en_47 rfl (with_calls b t name 49 _ w3 (h.kt0 kw) (OpRes b t w (removeP t.now name)) en_49 (fun hn => by rw [removeP, hn]; exact OpRes.keep h kw) (fun old hn => Calls.mono (remove1_calls b a2 a3 t name old w3 (h.kt0 kw) b2 b3 hn) (retmono (fun v w' hr => hr.after kw)))) rfl ?_)   -- t8
  intro v8 w8 hR
  refine Run.ev (Ev.assign rfl) rfl rfl ?_   -- t4
  refine Run.nil ?_
  refine At.then ?_
  refine W.ret ?_
  exact At.ret1 rfl rfl rfl hR

theorem rename1_calls (b xb sb nb : Nat) (t : Sto) (name data old : Bs) (w : World) (h : StoR b t w) (hs : w.heap[sb]? = some (.cells #[.pointer (some ⟨b, 0, none⟩)] 30 (0, 0))) (hnb : w.heap[nb]? = some (.cells #[str name] 9 (0, 0))) (hx : w.heap[xb]? = some (.cells #[str data] 9 (0, 0))) (hl : data.length ≤ 1000000) (hg0 : mget t.now name = some old) : Calls P 50 [str old, .pointer (some ⟨xb, 0, none⟩), .pointer (some ⟨sb, 0, none⟩), .pointer (some ⟨nb, 0, none⟩)].toArray w (Ret (OpRes b t w (renameP t.now name data))) := by
  refine enterW 37 Tryz.func50 rfl rfl rfl ?_
  refine W.seq ?_
  -- region 0 (store.go:101)
  refine W.region ?_
  refine Run.ev (Ev.assign rfl) rfl rfl ?_   -- t5
  refine Run.nil ?_
  refine At.then ?_
  refine W.seq ?_
  refine W.seq ?_
  -- region 1 (store.go:102)
  refine W.region ?_
  refine Run.ev (Ev.load sc_9 rfl (cell_of hx rfl)) rfl rfl ?_   -- t8
  refine Run.step rfl (Stp.callr en_42 rfl (isName_calls data w hl) rfl ?_)   -- t9
  rintro v9 w9 ⟨rfl, k9⟩
  have h0 := h
  replace h := h.kt0 k9
  replace hs := k9.at0 hs
  replace hnb := k9.at0 hnb
  replace hx := k9.at0 hx
  refine Run.ev (Ev.not rfl) rfl rfl ?_   -- t10
  refine Run.nil ?_
  refine At.then ?_
  refine W.cond rfl (fun hc10 => ?_) (fun hc10 => ?_)
  · have hw : renameP t.now name data = (7, t.now) := by
      rw [renameP, hg0]; simp only; rw [if_pos (by simpa using hc10)]
    refine W.seq ?_
    -- region 2 (store.go:103)
    refine W.region ?_
    refine Run.ev (Ev.assign rfl) rfl rfl ?_   -- t5
    refine Run.nil ?_
    refine At.then ?_
    refine W.ret ?_
    refine At.then_ret ?_
    exact At.ret1 rfl rfl rfl (by rw [hw]; exact OpRes.keep h0 k9)
  · have hnm : ¬ isNameP data = false := by simpa using hc10
    refine W.skip ?_
    refine At.then ?_
    refine W.seq ?_
    refine W.seq ?_
    -- region 3 DRAWS (store.go:105)
    refine W.draw (fun w' => (w'.heap[b]? = some (.cells (t.cells (.map (some t.mn))) 57 (0, 0)) ∧ w'.heap[sb]? = some (.cells #[.pointer (some ⟨b, 0, none⟩)] 30 (0, 0)) ∧ w'.heap[nb]? = some (.cells #[str name] 9 (0, 0)) ∧ w'.heap[xb]? = some (.cells #[str data] 9 (0, 0))) ∧ MapR str w' t.mn (nowV t.now)) [(0, true), (1, true), (2, true), (3, true), (4, true), (5, true), (6, true), (7, true), (8, true), (9, true), (10, true)] (by repeat (first | exact PQ.body | with_reducible apply PQ.then | with_reducible apply PQ.block)) (by kernel_rfl) (by kernel_rfl) (by kernel_rfl) rfl ?_
    have kd := (Kt.refl No w9).drew
    have hS0 : w9.drew.heap[b]? = some (.cells (t.cells (.map (some t.mn))) 57 (0, 0)) ∧ w9.drew.heap[sb]? = some (.cells #[.pointer (some ⟨b, 0, none⟩)] 30 (0, 0)) ∧ w9.drew.heap[nb]? = some (.cells #[str name] 9 (0, 0)) ∧ w9.drew.heap[xb]? = some (.cells #[str data] 9 (0, 0)) := ⟨h.q.hb, hs, hnb, hx⟩
    replace hS0 : _ ∧ MapR str w9.drew t.mn (nowV t.now) := ⟨hS0, h.hmn.kt0 kd⟩
    refine RunD.ev rfl (fun w' hS => (Ev.load sc_30 rfl (cell_of hS.1.2.1 rfl))) hS0 rfl rfl ?_   -- t12
    refine RunD.ev rfl (fun w' hS => (Ev.nilCheck rfl)) hS0 rfl rfl ?_   -- t13
    refine RunD.ev rfl (fun w' hS => (Ev.fieldAddr fo_57_2 rfl rfl)) hS0 rfl rfl ?_   -- t14
    refine RunD.ev rfl (fun w' hS => (Ev.load sc_54 rfl (cell_of hS.1.1 rfl))) hS0 rfl rfl ?_   -- t15
    refine RunD.ev rfl (fun w' hS => (Ev.load sc_9 rfl (cell_of hS.1.2.2.2 rfl))) hS0 rfl rfl ?_   -- t16
    refine RunD.ev rfl (fun w' hS => (Ev.lookup (m := nowV t.now) (k := data) (ok := true) keyStr Tryz.underlying54 Tryz.underlying9 zv_9 rfl rfl hS.2)) hS0 rfl rfl ?_   -- t17
    refine RunD.ev rfl (fun w' hS => (Ev.move rfl)) hS0 rfl rfl ?_   -- t11
    refine RunD.ev rfl (fun w' hS => (Ev.extract rfl rfl)) hS0 rfl rfl ?_   -- t18
    refine RunD.ev rfl (fun w' hS => (Ev.to (v' := .bool (mget t.now data).isSome) (by rw [now_look]; simp) (Ev.extract rfl rfl))) hS0 rfl rfl ?_   -- t19
    refine RunD.ev rfl (fun w' hS => (Ev.assign rfl)) hS0 rfl rfl ?_   -- t6
    refine RunD.ev rfl (fun w' hS => (Ev.assign rfl)) hS0 rfl rfl ?_   -- t7
    refine RunD.nil ?_
    refine At.then ?_
    refine W.seq ?_
    -- region 4 (store.go:105)
    refine W.region ?_
    refine Run.ev (Ev.move rfl) rfl rfl ?_   -- t20
    refine Run.ev (Ev.move rfl) rfl rfl ?_   -- t21
    refine Run.evg rfl rfl (fun hg => (Ev.load sc_9 rfl (cell_of hS0.1.2.2.2 rfl))) rfl ?_   -- t22
    refine Run.evg rfl rfl (fun hg => (Ev.load sc_9 rfl (cell_of hS0.1.2.2.1 rfl))) rfl ?_   -- t23
    refine Run.evg rfl rfl (fun hg => (Ev.sneq (p := data) (q := name) (ifp hg) (ifp hg) rfl)) rfl ?_   -- t24
    refine Run.ev (Ev.pick_and rfl rfl rfl) rfl rfl ?_   -- t25
    refine Run.nil ?_
    refine At.then ?_
    refine W.cond rfl (fun hc25 => ?_) (fun hc25 => ?_)
    · have hw : renameP t.now name data = (6, t.now) := by
        rw [renameP, hg0]; simp only; rw [if_neg hnm, if_pos]
        simpa using hc25
      refine W.seq ?_
      -- region 5 (store.go:106)
      refine W.region ?_
      refine Run.ev (Ev.assign rfl) rfl rfl ?_   -- t5
      refine Run.nil ?_
      refine At.then ?_
      refine W.ret ?_
      refine At.then_ret ?_
      exact At.ret1 rfl rfl rfl (by rw [hw]; exact OpRes.keep h0 (k9.no kd))
    · have hw : renameP t.now name data = (0, mset (mdel t.now name) data old) := by
        rw [renameP, hg0]; simp only; rw [if_neg hnm, if_neg]
        simpa using hc25
      replace hS0 := hS0.1
      refine W.skip ?_
      refine At.then ?_
      refine W.seq ?_
      -- region 6 DRAWS (store.go:108)
      refine W.draw (fun w' => w'.heap[b]? = some (.cells (t.cells (.map (some t.mn))) 57 (0, 0)) ∧ w'.heap[sb]? = some (.cells #[.pointer (some ⟨b, 0, none⟩)] 30 (0, 0)) ∧ w'.heap[nb]? = some (.cells #[str name] 9 (0, 0)) ∧ w'.heap[xb]? = some (.cells #[str data] 9 (0, 0))) [(0, true), (1, true), (2, true), (3, true), (4, true), (5, false)] (by repeat (first | exact PQ.body | with_reducible apply PQ.then | with_reducible apply PQ.block)) (by kernel_rfl) (by kernel_rfl) (by kernel_rfl) rfl ?_
      have kd2 := kd.drew
      replace hS0 : _ ∧ _ ∧ _ ∧ _ := ⟨hS0.1, hS0.2.1, hS0.2.2.1, hS0.2.2.2⟩
      refine RunD.ev rfl (fun w' hS => (Ev.load sc_30 rfl (cell_of hS.2.1 rfl))) hS0 rfl rfl ?_   -- t26
      refine RunD.ev rfl (fun w' hS => (Ev.nilCheck rfl)) hS0 rfl rfl ?_   -- t27
      refine RunD.ev rfl (fun w' hS => (Ev.fieldAddr fo_57_2 rfl rfl)) hS0 rfl rfl ?_   -- t28
      refine RunD.ev rfl (fun w' hS => (Ev.load sc_54 rfl (cell_of hS.1 rfl))) hS0 rfl rfl ?_   -- t29
      refine RunD.ev rfl (fun w' hS => (Ev.load sc_9 rfl (cell_of hS.2.2.1 rfl))) hS0 rfl rfl ?_   -- t30
      refine RunD.step rfl rfl (Stp.delete (k := name) rfl keyStr Tryz.underlying54 Tryz.underlying9 rfl rfl (h.hmn.kt0 kd2) ?_)   -- tNone
      intro wU kU bU zU
      rw [now_del] at bU
      replace hS0 : _ ∧ _ ∧ _ ∧ _ := ⟨kU.at hS0.1 (Ne.symm (h.hmn.ne_cells h.q.hb)), kU.at hS0.2.1 (Ne.symm (h.hmn.ne_cells hs)), kU.at hS0.2.2.1 (Ne.symm (h.hmn.ne_cells hnb)), kU.at hS0.2.2.2 (Ne.symm (h.hmn.ne_cells hx))⟩
      have hr1 := (h.kt0 kd2).putNow kU bU
      refine ⟨hS0, ?_⟩
      refine RunD.nil ?_
      refine At.then ?_
      refine W.seq ?_
      -- region 7 DRAWS (store.go:109)
      refine W.draw (fun w' => w'.heap[b]? = some (.cells (t.cells (.map (some t.mn))) 57 (0, 0)) ∧ w'.heap[sb]? = some (.cells #[.pointer (some ⟨b, 0, none⟩)] 30 (0, 0)) ∧ w'.heap[nb]? = some (.cells #[str name] 9 (0, 0)) ∧ w'.heap[xb]? = some (.cells #[str data] 9 (0, 0))) [(0, true), (1, true), (2, true), (3, true), (4, true), (5, true), (6, false)] (by repeat (first | exact PQ.body | with_reducible apply PQ.then | with_reducible apply PQ.block)) (by kernel_rfl) (by kernel_rfl) (by kernel_rfl) rfl ?_
      have kd3 := (Kt.refl No wU).drew
      replace hS0 : _ ∧ _ ∧ _ ∧ _ := ⟨hS0.1, hS0.2.1, hS0.2.2.1, hS0.2.2.2⟩
      refine RunD.ev rfl (fun w' hS => (Ev.load sc_30 rfl (cell_of hS.2.1 rfl))) hS0 rfl rfl ?_   -- t31
      refine RunD.ev rfl (fun w' hS => (Ev.nilCheck rfl)) hS0 rfl rfl ?_   -- t32
      refine RunD.ev rfl (fun w' hS => (Ev.fieldAddr fo_57_2 rfl rfl)) hS0 rfl rfl ?_   -- t33
      refine RunD.ev rfl (fun w' hS => (Ev.load sc_54 rfl (cell_of hS.1 rfl))) hS0 rfl rfl ?_   -- t34
      refine RunD.ev rfl (fun w' hS => (Ev.load sc_9 rfl (cell_of hS.2.2.2 rfl))) hS0 rfl rfl ?_   -- t35
      refine RunD.ev rfl (fun w' hS => (Ev.move rfl)) hS0 rfl rfl ?_   -- t36
      refine RunD.step rfl rfl (Stp.mapUpdate (k := data) keyStr Tryz.underlying54 Tryz.underlying9 rfl rfl rfl (bU.kt0 kd3) ?_)   -- tNone
      intro wV kV bV zV
      replace bV : MapR str wV t.mn (mset (nowV (mdel t.now name)) data (str old)) := bV
      rw [now_put] at bV
      replace hS0 : _ ∧ _ ∧ _ ∧ _ := ⟨kV.at hS0.1 (Ne.symm (h.hmn.ne_cells h.q.hb)), kV.at hS0.2.1 (Ne.symm (h.hmn.ne_cells hs)), kV.at hS0.2.2.1 (Ne.symm (h.hmn.ne_cells hnb)), kV.at hS0.2.2.2 (Ne.symm (h.hmn.ne_cells hx))⟩
      refine ⟨hS0, ?_⟩
      refine RunD.nil ?_
      refine At.then ?_
      refine W.seq ?_
      -- region 8 (store.go:110)
      refine W.region ?_
      refine Run.ev (Ev.assign rfl) rfl rfl ?_   -- t5
      refine Run.nil ?_
      refine At.then ?_
      refine W.ret ?_
      have hr2 := (hr1.kt0 kd3).putNow (now := mset (mdel t.now name) data old) kV bV
      exact At.ret1 rfl rfl rfl (by rw [hw]; exact ⟨rfl, hr2, (((k9.no kd2).mono (fun _ _ e => e.elim)).trans kU (fun i _ e => e)).trans ((kd3.mono (fun _ _ e => e.elim)).trans kV (fun i _ e => e)) (fun i _ e => e)⟩)

theorem Rename_calls (b : Nat) (t : Sto) (name data : Bs) (w : World) (h : StoR b t w) (hd : data.length ≤ 1000000) : Calls P 28 [.pointer (some ⟨b, 0, none⟩), str name, str data].toArray w (Ret (OpRes b t w (renameP t.now name data))) := by
  refine enterW 11 Tryz.func28 rfl rfl rfl ?_
  refine W.seq ?_
  -- region 0 (store.go:100)
  refine W.region ?_
  refine Run.step rfl (Stp.box rfl rfl ?_)   -- t3
  intro a3 w3 e3 k3 b3 z3
  refine Run.step rfl (Stp.box rfl rfl ?_)   -- t4
  intro a4 w4 e4 k4 b4 z4
  replace b3 := k4.at0 b3
  refine Run.step rfl (Stp.box rfl rfl ?_)   -- t5
  intro a5 w5 e5 k5 b5 z5
  replace b3 := k5.at0 b3
  replace b4 := k5.at0 b4
  have kw := (k3.no k4).no k5
  refine Run.ev (Ev.assign rfl) rfl rfl ?_   -- t6
  refine Run.nil ?_
  refine At.then ?_
  refine W.seq ?_
  -- region 1 (store.go:101)
  refine W.region ?_
  refine Run.ev (Ev.load sc_30 rfl (cell_of b3 rfl)) rfl rfl ?_   -- t7
  refine Run.ev (Ev.load sc_9 rfl (cell_of b4 rfl)) rfl rfl ?_   -- t8
  refine Run.ev (Ev.mkfunc rfl) rfl rfl ?_   -- t9
  refine Run.step rfl (Stp.callr en_47 rfl (with_calls b t name 50 _ w5 (h.kt0 kw) (OpRes b t w (renameP t.now name data)) en_50 (fun hn => by rw [renameP, hn]; exact OpRes.keep h kw) (fun old hn => Calls.mono (rename1_calls b a5 a3 a4 t name data old w5 (h.kt0 kw) b3 b4 b5 hd hn) (retmono (fun v w' hr => hr.after kw)))) rfl ?_)   -- t10
  intro v10 w10 hR
  refine Run.ev (Ev.assign rfl) rfl rfl ?_   -- t6
  refine Run.nil ?_
  refine At.then ?_
  refine W.ret ?_
  exact At.ret1 rfl rfl rfl hR

end Go.Proofs.YtlcgeepjekcfgaaGreat
