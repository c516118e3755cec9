/- A crash. -/
import Derived.Test.YtlcgeepjekcfgaaGreatZc
namespace Go.Proofs.YtlcgeepjekcfgaaGreat
open Go.RowKit
set_option linter.unusedVariables false
set_option linter.unusedSimpArgs false


def flushP (out : List Bs) (since : List (Int × Bs)) : List Bs := since.foldl (fun o p => o.set p.1.toNat p.2) out
def crashStep (s : List Bs × List (Int × Bs)) (e : EvP) : List Bs × List (Int × Bs) := if 0 ≤ e.1 then (s.1, mset s.2 e.1 e.2) else (flushP s.1 s.2, [])
def tornStep (since : List (Int × Bs)) (out : List Bs) (t : TornP) : List Bs := match mget since (t.1 : Int) with
  | some d => out.set t.1 (d.take t.2 ++ (out.getD t.1 []).drop t.2)
  | none => out
def crashS (pages : List Bs) (l : List EvP) : List Bs × List (Int × Bs) := l.foldl crashStep (pages, [])
def crashP (pages : List Bs) (l : List EvP) (kept : List TornP) : List Bs := kept.foldl (tornStep (crashS pages l).2) (crashS pages l).1
def sinceV (m : List (Int × Bs)) : List (Int × Value) := m.map fun p => (p.1, str p.2)
theorem flush_cons (out : List Bs) (p : Int × Bs) (r : List (Int × Bs)) : flushP out (p :: r) = flushP (out.set p.1.toNat p.2) r := rfl
theorem flush_perm {a b : List (Int × Bs)} (h : a.Perm b) : ∀ out, (a.map (·.1)).Nodup → (∀ p ∈ a, 0 ≤ p.1) → flushP out a = flushP out b := by
  induction h with
  | nil => intro out _ _; rfl
  | cons x _ ih =>
    intro out hn hp
    rw [flush_cons, flush_cons]
    simp only [List.map_cons, List.nodup_cons] at hn
    exact ih _ hn.2 (fun p hq => hp p (List.mem_cons_of_mem _ hq))
  | swap x y l =>
    intro out hn hp
    rw [flush_cons, flush_cons, flush_cons, flush_cons]
    congr 1
    simp only [List.map_cons, List.nodup_cons, List.mem_cons, not_or] at hn
    have h1 := hp y List.mem_cons_self
    have h2 := hp x (List.mem_cons_of_mem _ List.mem_cons_self)
    have hne : y.1.toNat ≠ x.1.toNat := fun e => hn.1.1 (by omega)
    exact List.set_comm _ _ hne
  | trans h1 _ ih1 ih2 =>
    intro out hn hp
    rw [ih1 out hn hp]
    exact ih2 out ((h1.map _).nodup_iff.1 hn) (fun p hq => hp p (h1.mem_iff.2 hq))
theorem crashS_snoc (pages : List Bs) (l : List EvP) (e : EvP) : crashS pages (l ++ [e]) = crashStep (crashS pages l) e := by simp [crashS]
def all64 (l : List Bs) : Prop := l.length = 256 ∧ ∀ s ∈ l, s.length = 64
theorem all64.set {l : List Bs} {i : Nat} {s : Bs} (h : all64 l) (hs : s.length = 64) : all64 (l.set i s) :=
  ⟨by rw [List.length_set]; exact h.1, fun x hx => (List.mem_or_eq_of_mem_set hx).elim (h.2 x) (fun e => e ▸ hs)⟩
def sinceOK (m : List (Int × Bs)) : Prop := ∀ p ∈ m, 0 ≤ p.1 ∧ p.1 < 256 ∧ p.2.length = 64
theorem flush_64 {m : List (Int × Bs)} : ∀ {out : List Bs}, all64 out → sinceOK m → all64 (flushP out m) := by
  induction m with
  | nil => intro out h _; exact h
  | cons x r ih =>
    intro out h hm
    rw [flush_cons]
    exact ih (h.set (hm x List.mem_cons_self).2.2) (fun p hp => hm p (List.mem_cons_of_mem _ hp))
theorem since_put {m : List (Int × Bs)} {k : Int} {d : Bs} (h : sinceOK m) (h1 : 0 ≤ k ∧ k < 256 ∧ d.length = 64) : sinceOK (mset m k d) := fun p hp => by
  rcases mset_mem hp with hp | rfl
  · exact h p hp
  · exact h1
theorem mget_in {κ V : Type} [DecidableEq κ] {m : List (κ × V)} {k : κ} {v : V} (h : mget m k = some v) : (k, v) ∈ m := by
  induction m with
  | nil => cases h
  | cons x r ih =>
    obtain ⟨a, u⟩ := x
    simp only [mget] at h
    split at h
    · rename_i e; cases h; subst e; exact List.mem_cons_self
    · exact List.mem_cons_of_mem _ (ih h)
theorem flat2_take {α : Type} {enc : α → List Value} (h2 : ∀ a, (enc a).length = 2) (a b : List α) : ((a ++ b).flatMap enc).take (a.length * 2) = a.flatMap enc := by
  rw [List.flatMap_append, List.take_append_of_le_length (by rw [flat2_len h2]; exact Nat.le_refl _)]
  exact List.take_of_length_le (by rw [flat2_len h2]; exact Nat.le_refl _)
theorem Sl.ktk {w w' : World} {e sz n a : Nat} {v : Value} {xs : List Value} {o : Obj} (h : Sl w e sz v n xs) (hk : Kt (fun i => i = a) w w') (ha : w.heap[a]? = some o) (hne : ∀ c f, o ≠ .cells c e f) : Sl w' e sz v n xs :=
  h.kt hk (fun i q1 q2 q3 => by subst q3; exact h.ne ha hne q1 q2)
theorem own_ktk {w w' : World} {base e sz n a : Nat} {v : Value} {xs : List Value} {o : Obj} (h : w.ownsRow base e sz v n xs) (hk : Kt (fun i => i = a) w w') (ha : w.heap[a]? = some o) (hne : ∀ c f, o ≠ .cells c e f) : w'.ownsRow base e sz v n xs :=
  hk.own h (fun k hk' q => own_ne h ha hne (q ▸ hk'))

set_option maxHeartbeats 4000000 in
theorem Crash_calls (pv ev kv : Value) (pages : List Bs) (l1 l2 : List EvP) (kept : List TornP) (w : World) (hpg : Sl w 9 1 pv 256 (pages.map str)) (h64 : all64 pages) (hev : Sl w 118 2 ev (l1 ++ l2).length (evsV (l1 ++ l2))) (hok : ∀ e ∈ l1 ++ l2, evOK e) (hkv : Sl w 25 2 kv kept.length (kept.flatMap tornV)) (hkk : ∀ t ∈ kept, tornOK t) (hll : (l1 ++ l2).length ≤ 1000000) :
    Calls P 31 [pv, ev, natv l1.length, kv].toArray w (Ret fun v w' => ∃ pb cap, v = .tuple #[.slice (some ⟨pb, 0, none⟩) 256 cap, natv 0] ∧ w.heap.size ≤ pb ∧ w'.ownsRow 0 9 1 (.slice (some ⟨pb, 0, none⟩) 256 cap) 256 ((crashP pages l1 kept).map str) ∧ Kt No w w') := by
  obtain ⟨pp, pc, rfl, hpc1, hpc2⟩ := hpg.len
  obtain ⟨ep, ec, rfl, hec1, hec2⟩ := hev.len
  obtain ⟨kp, kc, rfl, hkc1, hkc2⟩ := hkv.len
  have hml := maxLen_le
  have hcut : Sl w 118 2 (sliced ep 0 l1.length ec 2) l1.length (evsV l1) := by
    have := hev.cut 0 l1.length (by omega) (by rw [List.length_append]; omega)
    rw [Nat.zero_mul, List.drop_zero, Nat.sub_zero] at this
    unfold evsV at this ⊢
    rw [flat2_take evV_2] at this
    exact this
  obtain ⟨sp, sc, hsv, _, _⟩ := hcut.len
  rw [hsv] at hcut
  refine enterW 107 Tryz.func31 rfl rfl rfl ?_
  refine W.seq ?_
  -- region 0 (store.go:230)
  refine W.region ?_
  refine Run.ev (Ev.assign rfl) rfl rfl ?_   -- t8
  refine Run.ev (Ev.assign rfl) rfl rfl ?_   -- t9
  refine Run.nil ?_
  refine At.then ?_
  refine W.seq ?_
  -- region 1 (store.go:231)
  refine W.region ?_
  refine Run.ev (Ev.move rfl) rfl rfl ?_   -- t21
  refine Run.step rfl (Stp.callr en_58 rfl (total_calls (l1 ++ l2) _ w hev hok) rfl ?_)   -- t22
  rintro v22 w22 ⟨rfl, k22⟩
  refine Run.ev (Ev.assign rfl) rfl rfl ?_   -- t10
  refine Run.nil ?_
  refine At.then ?_
  refine W.seq ?_
  refine W.seq ?_
  -- region 2 (store.go:237)
  refine W.region ?_
  refine Run.ev (Ev.move rfl) rfl rfl ?_   -- t23
  refine Run.step rfl (Stp.callr en_14 rfl (isDisk_calls pages _ w22 (by rw [h64.1]; exact hpg.kt0 k22)) rfl ?_)   -- t24
  rintro v24 w24 ⟨rfl, k24⟩
  have hd : isDiskP pages = true := by unfold isDiskP; simp [h64.1]; exact h64.2
  rw [hd]
  have kt := k22.no k24
  refine Run.ev (Ev.not rfl) rfl rfl ?_   -- t25
  refine Run.ev (Ev.move rfl) rfl rfl ?_   -- t26
  refine Run.evg rfl rfl (fun hg => (Ev.move rfl)) rfl ?_   -- t27
  refine Run.evg rfl rfl (fun hg => (Ev.gtr (m := 0) (n := 0) (ifp hg) rfl rfl)) rfl ?_   -- t28
  refine Run.ev (Ev.pick_or rfl rfl rfl) rfl rfl ?_   -- t29
  refine Run.nil ?_
  refine At.then ?_
  refine W.cond_f rfl ?_
  refine W.skip ?_
  refine At.then ?_
  refine W.seq ?_
  refine W.seq ?_
  -- region 4 (store.go:240)
  refine W.region ?_
  refine Run.ev (Ev.move rfl) rfl rfl ?_   -- t30
  refine Run.ev (Ev.lss (m := (l1.length : Int)) (n := 0) rfl rfl rfl) rfl rfl ?_   -- t31
  refine Run.ev (Ev.move rfl) rfl rfl ?_   -- t32
  refine Run.evg rfl rfl (fun hg => (Ev.move rfl)) rfl ?_   -- t33
  refine Run.evg rfl rfl (fun hg => (Ev.move rfl)) rfl ?_   -- t34
  refine Run.evg rfl rfl (fun hg => (Ev.len (ifp hg) Tryz.underlying55)) rfl ?_   -- t35
  refine Run.evg rfl rfl (fun hg => (Ev.gtr (m := (l1.length : Int)) (n := ((l1 ++ l2).length : Int)) (ifp hg) rfl rfl)) rfl ?_   -- t36
  refine Run.ev (Ev.pick_or rfl rfl rfl) rfl rfl ?_   -- t37
  refine Run.ev (Ev.move rfl) rfl rfl ?_   -- t38
  refine Run.evg rfl rfl (fun hg => (Ev.move rfl)) rfl ?_   -- t39
  refine Run.callg (vs := [.slice kp kept.length kc, .func (.func 61) #[] #[]]) en_60 rfl rfl (fun hg => by simp only [Env.evs, Env.ev, Env.get?]; rw [if_pos hg]) (fun hg => containsF_calls kept _ _ (hkv.kt0 kt) hkk) rfl ?_   -- t40
  intro w40 k40
  replace kt := kt.no k40
  refine Run.ev (Ev.pick_or rfl rfl rfl) rfl rfl ?_   -- t41
  refine Run.nil ?_
  refine At.then ?_
  refine W.cond rfl (fun hc41 => ?_) (fun hc41 => ?_)
  · exfalso
    simp at hc41
    omega
  · refine W.skip ?_
    refine At.then ?_
    refine W.seq ?_
    -- region 6 (store.go:245)
    refine W.region ?_
    refine Run.ev (Ev.move rfl) rfl rfl ?_   -- t42
    refine Run.step rfl (Stp.callr en_16 rfl (clone16_calls _ _ 256 pages _ (hpg.kt0 kt) (by omega) (by omega)) rfl ?_)   -- t43
    rintro v43 w43 ⟨pb, c43, rfl, hpb, o43, k43⟩
    have hpb0 : w.heap.size ≤ pb := Nat.le_trans kt.size hpb
    replace kt := kt.no k43
    have hpbl := own_lt o43
    refine Run.ev (Ev.assign rfl) rfl rfl ?_   -- t11
    refine Run.nil ?_
    refine At.then ?_
    refine W.seq ?_
    -- region 7 (store.go:246)
    refine W.region ?_
    refine Run.step rfl (Stp.makeMap rfl ?_)   -- t44
    intro a44 w44 e44 k44 b44 z44
    have s44 := kt.size
    replace kt := kt.no k44
    replace o43 := k44.own0 o43
    have hm0 : MapR i64v w44 a44 (sinceV []) := MapR.empty b44
    refine Run.ev (Ev.assign rfl) rfl rfl ?_   -- t12
    refine Run.nil ?_
    refine At.then ?_
    refine W.seq ?_
    refine W.seq ?_
    -- region 8 (store.go:247)
    refine W.region ?_
    refine Run.ev (Ev.move rfl) rfl rfl ?_   -- t45
    refine Run.ev (Ev.move rfl) rfl rfl ?_   -- t46
    refine Run.ev (Ev.cut (l := 0) (m := l1.length) Tryz.underlying55 es_118 rfl (.inl ⟨rfl, rfl⟩) (.inr ⟨_, rfl, rfl⟩) (by omega) (by rw [List.length_append] at hec1; omega) (by omega)) rfl rfl ?_   -- t47
    refine Run.ev (Ev.len rfl Tryz.underlying55) rfl rfl ?_   -- t48
    refine Run.ev (Ev.move rfl) rfl rfl ?_   -- t49
    refine Run.nil ?_
    refine At.then ?_
    refine W.block ?_
    refine W.loop (fun (x : Nat × List Bs × List (Int × Bs)) => [(3, .slice kp kept.length kc), (11, .slice (some ⟨pb, 0, none⟩) 256 c43), (12, .map (some a44)), (47, .slice sp l1.length sc), (48, natv l1.length), (49, natv x.1)])
      (fun x w' => x.1 ≤ l1.length ∧ Kt No w w' ∧ w'.ownsRow 0 9 1 (.slice (some ⟨pb, 0, none⟩) 256 c43) 256 (x.2.1.map str) ∧ MapR i64v w' a44 (sinceV x.2.2) ∧ crashS pages (l1.take x.1) = (x.2.1, x.2.2) ∧ sinceOK x.2.2 ∧ all64 x.2.1)
      (fun x => l1.length - x.1) (0, pages, []) ⟨Nat.zero_le _, kt, o43, hm0, rfl, (fun p hp => by cases hp), h64⟩ (Env.sub_cons rfl (Env.sub_cons rfl (Env.sub_cons rfl (Env.sub_cons (by rw [← hsv]; rfl) (Env.sub_cons rfl (Env.sub_cons rfl (Env.sub_nil _))))))) ?_
    clear kt o43 hm0
    rintro ⟨j, out, since⟩ w1 ⟨hj, kt, ho, hm, hc, hs, ha⟩
    dsimp only at hj ho hm hc hs ha
    show W _ _ _ [(3, .slice kp kept.length kc), (11, .slice (some ⟨pb, 0, none⟩) 256 c43), (12, .map (some a44)), (47, .slice sp l1.length sc), (48, natv l1.length), (49, natv j)] w1
    have hw1 := kt.size
    have hml1 := hm.lt
    have hpl1 := own_lt ho
    refine W.seq ?_
    -- region 9 (store.go:247)
    refine W.region ?_
    refine Run.ev (Ev.lss rfl rfl rfl) rfl rfl ?_   -- t50
    refine Run.nil ?_
    refine At.then ?_
    refine W.seq ?_
    refine W.cond rfl (fun hc50 => ?_) (fun hc50 => ?_)
    · replace hc50 := of_decide_eq_true hc50
      obtain ⟨e, he⟩ : ∃ e, l1[j]? = some e := ⟨_, List.getElem?_eq_getElem (by omega)⟩
      obtain ⟨g, off, cap2, cur, fr, hv, hg, hev2⟩ := row_at evV_2 (hcut.kt0 kt) he
      cases hv
      have heo := hok e (List.mem_append_left _ (List.mem_of_getElem? he))
      refine W.skip ?_
      refine At.then ?_
      refine W.seq ?_
      refine W.block ?_
      refine W.seq ?_
      -- region 10 (store.go:247)
      refine W.region ?_
      refine Run.ev (Ev.indexAddr Tryz.underlying55 es_118 rfl rfl (by omega) rfl) rfl rfl ?_   -- t51
      refine Run.ev (Ev.to (v' := .agg #[.int .i64 e.1, str e.2]) rfl (Ev.loadA (vs := evV e) ag_118 rfl hg (by rw [← hev2]; congr 2) rfl)) rfl rfl ?_   -- t52
      refine Run.step rfl (Stp.alloc zc_118 rfl ?_)   -- t14
      intro a14 w14 e14 k14 b14 z14
      replace kt := kt.no k14
      replace ho := k14.own0 ho
      replace hm := hm.kt0 k14
      refine Run.step rfl (Stp.storeA (vs := [.int .i64 e.1, str e.2]) ag_118 rfl rfl rfl (evV_one e) b14 (by simp) ?_)   -- tNone
      intro wS kS bS zS
      replace bS : wS.heap[a14]? = some (.cells #[.int .i64 e.1, str e.2] 118 (0, 0)) := bS
      replace kt := kt.new kS (by rintro i rfl; omega)
      replace ho := own_ktk ho kS b14 (by intro c f e; cases e)
      replace hm := hm.kt kS (hm.ne_cells b14)
      refine Run.nil ?_
      refine At.then ?_
      refine W.seq ?_
      refine W.seq ?_
      -- region 11 (store.go:248)
      refine W.region ?_
      refine Run.ev (Ev.fieldAddr fo_118_0 rfl rfl) rfl rfl ?_   -- t53
      refine Run.ev (Ev.load (v := .int .i64 e.1) sc_3 rfl (cell_of bS rfl)) rfl rfl ?_   -- t54
      refine Run.ev (Ev.geq (m := e.1) (n := 0) rfl rfl rfl) rfl rfl ?_   -- t55
      refine Run.nil ?_
      refine At.then ?_
      refine W.cond rfl (fun hc55 => ?_) (fun hc55 => ?_)
      · replace hc55 := of_decide_eq_true hc55
        have hst : crashS pages (l1.take (j + 1)) = (out, mset since e.1 e.2) := by rw [take_snoc he, crashS_snoc, hc, crashStep, if_pos hc55]
        refine W.seq ?_
        -- region 12 (store.go:249)
        refine W.region ?_
        refine Run.ev (Ev.move rfl) rfl rfl ?_   -- t56
        refine Run.ev (Ev.fieldAddr fo_118_0 rfl rfl) rfl rfl ?_   -- t57
        refine Run.ev (Ev.load (v := i64v e.1) sc_3 rfl (cell_of bS rfl)) rfl rfl ?_   -- t58
        refine Run.ev (Ev.fieldAddr fo_118_1 rfl rfl) rfl rfl ?_   -- t59
        refine Run.ev (Ev.load (v := str e.2) sc_9 rfl (cell_of bS rfl)) rfl rfl ?_   -- t60
        refine Run.step rfl (Stp.mapUpdate (k := e.1) (v := str e.2) (keyInt .i64) Tryz.underlying124 Tryz.underlying3 rfl rfl rfl hm ?_)   -- tNone
        intro wU kU bU zU
        rw [show mset (sinceV since) e.1 (str e.2) = sinceV (mset since e.1 e.2) from mset_map str since e.1 e.2] at bU
        refine Run.nil ?_
        refine At.then ?_
        refine W.exit ?_
        refine At.then_exit ?_
        refine At.block_here ?_
        refine At.then ?_
        -- region 18 (store.go:247)
        refine W.region ?_
        refine Run.ev (Ev.add rfl rfl (by omega)) rfl rfl ?_   -- t73
        refine Run.ev (Ev.move rfl) rfl rfl ?_   -- t49
        refine Run.nil ?_
        exact At.round (j + 1, out, mset since e.1 e.2) (Env.sub_cons rfl (Env.sub_cons rfl (Env.sub_cons rfl (Env.sub_cons rfl (Env.sub_cons rfl (Env.sub_cons rfl (Env.sub_nil _))))))) ⟨by show j + 1 ≤ l1.length; omega, kt.new kU (by rintro i rfl; omega), kU.own ho (fun k hk' q => hm.ne_own2 ho hk' q), bU, hst, since_put hs ⟨hc55, heo.2.1, heo.2.2 hc55⟩, ha⟩ (by show l1.length - (j + 1) < l1.length - j; omega)
      · replace hc55 := of_decide_eq_false hc55
        have hst : crashS pages (l1.take (j + 1)) = (flushP out since, []) := by rw [take_snoc he, crashS_snoc, hc, crashStep, if_neg hc55]
        refine W.skip ?_
        refine At.then ?_
        refine W.seq ?_
        refine W.seq ?_
        -- region 13 (store.go:252)
        refine W.region ?_
        refine Run.ev (Ev.move rfl) rfl rfl ?_   -- t61
        refine Run.step rfl (Stp.range Tryz.underlying124 rfl hm rfl ?_)   -- t62
        intro a62 w62 e62 k62 b62 z62
        replace kt := kt.no k62
        replace ho := k62.own0 ho
        replace hm := hm.kt0 k62
        have hnd := hm.nodup
        have hms := hm.lt
        have zSS := zS
        refine Run.nil ?_
        refine At.then ?_
        refine W.block ?_
        refine W.loop (fun (x : List (Int × Bs) × List Bs) => [(3, .slice kp kept.length kc), (11, .slice (some ⟨pb, 0, none⟩) 256 c43), (12, .map (some a44)), (47, .slice (some ⟨g, off, none⟩) l1.length sc), (48, natv l1.length), (49, natv j), (62, .pointer (some ⟨a62, 0, none⟩))])
          (fun x w' => Kt No w w' ∧ w'.ownsRow 0 9 1 (.slice (some ⟨pb, 0, none⟩) 256 c43) 256 (x.2.map str) ∧ MapR i64v w' a44 (sinceV since) ∧ IterR i64v w' a62 a44 (sinceV x.1) ∧ flushP x.2 x.1 = flushP out since ∧ sinceOK x.1 ∧ (x.1.map (·.1)).Nodup)
          (fun x => x.1.length) (since, out) ⟨kt, ho, hm, b62, rfl, hs, by simpa [sinceV, Function.comp_def] using hnd⟩ (Env.sub_cons rfl (Env.sub_cons rfl (Env.sub_cons rfl (Env.sub_cons rfl (Env.sub_cons rfl (Env.sub_cons rfl (Env.sub_cons rfl (Env.sub_nil _)))))))) ?_
        have n62 : a44 ≠ a62 := by omega
        have l62 : w.heap.size ≤ a62 := by omega
        clear kt ho hm b62
        rintro ⟨left, cur2⟩ w2 ⟨kt, ho, hm, hit, hfl, hlo, hln⟩
        dsimp only at ho hit hfl hlo hln
        show W _ _ _ [(3, .slice kp kept.length kc), (11, .slice (some ⟨pb, 0, none⟩) 256 c43), (12, .map (some a44)), (47, .slice (some ⟨g, off, none⟩) l1.length sc), (48, natv l1.length), (49, natv j), (62, .pointer (some ⟨a62, 0, none⟩))] w2
        refine W.seq ?_
        -- region 14 (store.go:252)
        refine W.region ?_
        refine Run.step rfl (Stp.next rfl (hit) rfl ?_ ?_)   -- t63
        · intro hl0 w63 k63 z63
          obtain rfl : left = [] := by cases left with | nil => rfl | cons x r => cases hl0
          replace kt := kt.no k63
          replace ho := k63.own0 ho
          replace hm := hm.kt0 k63
          have hfl2 : cur2 = flushP out since := hfl
          refine Run.ev (Ev.extract rfl rfl) rfl rfl ?_   -- t64
          refine Run.nil ?_
          refine At.then ?_
          refine W.seq ?_
          refine W.cond_f rfl ?_
          refine W.exit ?_
          refine At.then_exit ?_
          refine At.then_exit ?_
          refine At.block_here ?_
          refine At.then ?_
          -- region 17 (store.go:255)
          refine W.region ?_
          refine Run.ev (Ev.move rfl) rfl rfl ?_   -- t72
          refine Run.step rfl (Stp.clear rfl Tryz.underlying124 rfl hm ?_)   -- tNone
          intro wC kC bC zC
          have hmc := hm.lt
          refine Run.nil ?_
          refine At.block ?_
          refine At.then ?_
          -- region 18 (store.go:247)
          refine W.region ?_
          refine Run.ev (Ev.add rfl rfl (by omega)) rfl rfl ?_   -- t73
          refine Run.ev (Ev.move rfl) rfl rfl ?_   -- t49
          refine Run.nil ?_
          exact At.round (j + 1, cur2, []) (Env.sub_cons rfl (Env.sub_cons rfl (Env.sub_cons rfl (Env.sub_cons rfl (Env.sub_cons rfl (Env.sub_cons rfl (Env.sub_nil _))))))) ⟨by show j + 1 ≤ l1.length; omega, kt.new kC (by rintro i rfl; omega), kC.own ho (fun k hk' q => hm.ne_own2 ho hk' q), bC, by rw [hst, hfl2], (fun p hp => by cases hp), by rw [hfl2]; exact flush_64 ha hs⟩ (by show l1.length - (j + 1) < l1.length - j; omega)
        · intro k v left1 w63 hp1 k63 hit1 hent z63
          obtain ⟨f, l3, hpl, hf1, rfl⟩ := perm_map_cons hp1
          cases hf1
          replace kt := kt.new k63 (by rintro i rfl; exact l62)
          replace ho := k63.own ho (fun k hk' q => hit.ne_own2 ho hk' q)
          replace hm := hm.kt k63 n62
          have hfo := hlo f (hpl.mem_iff.2 List.mem_cons_self)
          obtain ⟨cs, hcs, hcn, _, hset⟩ := own_row ho
          refine Run.ev (Ev.extract rfl rfl) rfl rfl ?_   -- t64
          refine Run.nil ?_
          refine At.then ?_
          refine W.seq ?_
          refine W.cond_t rfl ?_
          refine W.skip ?_
          refine At.then ?_
          refine W.block ?_
          refine W.seq ?_
          -- region 15 (store.go:252)
          refine W.region ?_
          refine Run.ev (Ev.entry rfl hent) rfl rfl ?_   -- t65
          refine Run.ev (Ev.extract rfl rfl) rfl rfl ?_   -- t66
          refine Run.ev (Ev.extract rfl rfl) rfl rfl ?_   -- t67
          refine Run.ev (Ev.assign rfl) rfl rfl ?_   -- t15
          refine Run.ev (Ev.assign rfl) rfl rfl ?_   -- t16
          refine Run.nil ?_
          refine At.then ?_
          -- region 16 (store.go:253)
          refine W.region ?_
          refine Run.ev (Ev.move rfl) rfl rfl ?_   -- t68
          refine Run.ev (Ev.move rfl) rfl rfl ?_   -- t69
          refine Run.ev (Ev.move rfl) rfl rfl ?_   -- t70
          refine Run.ev (Ev.indexAddr (j := f.1) (m := f.1.toNat) Tryz.underlying34 es_9 rfl rfl (by omega) (by omega)) rfl rfl ?_   -- t71
          refine Run.step rfl (Stp.store sc_9 sz_9 rfl rfl rfl hcs (by omega) ?_)   -- tNone
          intro wE kE bE zE
          have hoE : wE.ownsRow 0 9 1 (.slice (some ⟨pb, 0, none⟩) 256 c43) 256 ((cur2.set f.1.toNat f.2).map str) := by
            rw [List.map_set]
            exact hset wE f.1.toNat (str f.2) (by omega) bE
          refine Run.nil ?_
          refine At.block ?_
          refine At.round (l3, cur2.set f.1.toNat f.2) (Env.sub_cons rfl (Env.sub_cons rfl (Env.sub_cons rfl (Env.sub_cons rfl (Env.sub_cons rfl (Env.sub_cons rfl (Env.sub_cons rfl (Env.sub_nil _)))))))) ⟨kt.new kE (by rintro i rfl; exact hpb0), hoE, hm.kt kE (hm.ne_cells hcs), hit1.kt kE (hit1.ne_cells hcs) (hm.ne_cells hcs), ?_, (fun p hp => hlo p (hpl.mem_iff.2 (List.mem_cons_of_mem _ hp))), ?_⟩ ?_
          · rw [← hfl, flush_perm hpl cur2 hln (fun p hp => (hlo p hp).1)]; rfl
          · have := (hpl.map (·.1)).nodup_iff.1 hln
            simp only [List.map_cons, List.nodup_cons] at this
            exact this.2
          · show l3.length < left.length
            rw [hpl.length_eq]; simp
    · replace hc50 := of_decide_eq_false hc50
      obtain rfl : j = l1.length := by omega
      rw [List.take_length] at hc
      refine W.exit ?_
      refine At.then_exit ?_
      refine At.then_exit ?_
      refine At.block_here ?_
      refine At.then ?_
      refine W.seq ?_
      refine W.seq ?_
      -- region 19 (store.go:257)
      refine W.region ?_
      refine Run.ev (Ev.move rfl) rfl rfl ?_   -- t74
      refine Run.ev (Ev.len rfl Tryz.underlying23) rfl rfl ?_   -- t75
      refine Run.ev (Ev.move rfl) rfl rfl ?_   -- t76
      refine Run.nil ?_
      refine At.then ?_
      refine W.block ?_
      refine W.loop (fun (x : Nat × List Bs) => [(11, .slice (some ⟨pb, 0, none⟩) 256 c43), (12, .map (some a44)), (74, .slice kp kept.length kc), (75, natv kept.length), (76, natv x.1)])
        (fun x w' => x.1 ≤ kept.length ∧ Kt No w w' ∧ w'.ownsRow 0 9 1 (.slice (some ⟨pb, 0, none⟩) 256 c43) 256 (x.2.map str) ∧ MapR i64v w' a44 (sinceV since) ∧ (kept.take x.1).foldl (tornStep since) out = x.2 ∧ all64 x.2)
        (fun x => kept.length - x.1) (0, out) ⟨Nat.zero_le _, kt, ho, hm, rfl, ha⟩ (Env.sub_cons rfl (Env.sub_cons rfl (Env.sub_cons rfl (Env.sub_cons rfl (Env.sub_cons rfl (Env.sub_nil _)))))) ?_
      clear kt ho hm ha
      rintro ⟨i, cur2⟩ w2 ⟨hi, kt, ho, hm, hto, ha⟩
      dsimp only at hi ho hto ha
      show W _ _ _ [(11, .slice (some ⟨pb, 0, none⟩) 256 c43), (12, .map (some a44)), (74, .slice kp kept.length kc), (75, natv kept.length), (76, natv i)] w2
      have hw2 := kt.size
      have hml2 := hm.lt
      have hpl2 := own_lt ho
      refine W.seq ?_
      -- region 20 (store.go:257)
      refine W.region ?_
      refine Run.ev (Ev.lss rfl rfl rfl) rfl rfl ?_   -- t77
      refine Run.nil ?_
      refine At.then ?_
      refine W.seq ?_
      refine W.cond rfl (fun hc77 => ?_) (fun hc77 => ?_)
      · replace hc77 := of_decide_eq_true hc77
        obtain ⟨t, ht⟩ : ∃ t, kept[i]? = some t := ⟨_, List.getElem?_eq_getElem (by omega)⟩
        obtain ⟨g, off, cap2, cur, fr, hv, hg, htv⟩ := row_at tornV_2 (hkv.kt0 kt) ht
        cases hv
        have hto2 := hkk t (List.mem_of_getElem? ht)
        refine W.skip ?_
        refine At.then ?_
        refine W.seq ?_
        refine W.block ?_
        refine W.seq ?_
        -- region 21 (store.go:257)
        refine W.region ?_
        refine Run.ev (Ev.indexAddr Tryz.underlying23 es_25 rfl rfl (by omega) rfl) rfl rfl ?_   -- t78
        refine Run.ev (Ev.to (v' := .agg #[natv t.1, natv t.2]) rfl (Ev.loadA (vs := tornV t) ag_25 rfl hg (by rw [← htv]; congr 2) rfl)) rfl rfl ?_   -- t79
        refine Run.step rfl (Stp.alloc zc_25 rfl ?_)   -- t18
        intro a18 w18 e18 k18 b18 z18
        replace kt := kt.no k18
        replace ho := k18.own0 ho
        replace hm := hm.kt0 k18
        refine Run.step rfl (Stp.storeA (vs := [natv t.1, natv t.2]) ag_25 rfl rfl rfl (tornV_one t) b18 (by simp) ?_)   -- tNone
        intro wT kT bT zT
        replace bT : wT.heap[a18]? = some (.cells #[natv t.1, natv t.2] 25 (0, 0)) := bT
        replace kt := kt.new kT (by rintro i rfl; omega)
        replace ho := own_ktk ho kT b18 (by intro c f e; cases e)
        replace hm := hm.kt kT (hm.ne_cells b18)
        refine Run.nil ?_
        refine At.then ?_
        refine W.seq ?_
        -- region 22 (store.go:258)
        refine W.region ?_
        refine Run.ev (Ev.move rfl) rfl rfl ?_   -- t81
        refine Run.ev (Ev.fieldAddr fo_25_0 rfl rfl) rfl rfl ?_   -- t82
        refine Run.ev (Ev.load (v := i64v (t.1 : Int)) sc_3 rfl (cell_of bT rfl)) rfl rfl ?_   -- t83
        refine Run.ev (Ev.lookup (m := sinceV since) (k := (t.1 : Int)) (ok := true) (keyInt .i64) Tryz.underlying124 Tryz.underlying3 zv_9 rfl rfl hm) rfl rfl ?_   -- t84
        refine Run.ev (Ev.move rfl) rfl rfl ?_   -- t80
        refine Run.ev (Ev.to (v' := str ((mget since (t.1 : Int)).getD [])) (by rw [show mget (sinceV since) (t.1 : Int) = (mget since (t.1 : Int)).map str from mget_map str since _]; cases mget since (t.1 : Int) <;> rfl) (Ev.extract rfl rfl)) rfl rfl ?_   -- t85
        refine Run.ev (Ev.to (v' := .bool (mget since (t.1 : Int)).isSome) (by rw [show mget (sinceV since) (t.1 : Int) = (mget since (t.1 : Int)).map str from mget_map str since _]; simp) (Ev.extract rfl rfl)) rfl rfl ?_   -- t86
        refine Run.ev (Ev.assign rfl) rfl rfl ?_   -- t19
        refine Run.ev (Ev.assign rfl) rfl rfl ?_   -- t20
        refine Run.nil ?_
        refine At.then ?_
        refine W.seq ?_
        -- region 23 (store.go:258)
        refine W.region ?_
        refine Run.ev (Ev.move rfl) rfl rfl ?_   -- t87
        refine Run.nil ?_
        refine At.then ?_
        refine W.cond rfl (fun hc87 => ?_) (fun hc87 => ?_)
        · obtain ⟨d, hd2⟩ : ∃ d, mget since (t.1 : Int) = some d := by
            cases hq : mget since (t.1 : Int) with
            | none => rw [hq] at hc87; cases hc87
            | some d => exact ⟨d, rfl⟩
          rw [hd2]
          have hdo := hs _ (mget_in hd2)
          have hd64 : d.length = 64 := hdo.2.2
          obtain ⟨s, hs2⟩ : ∃ s, cur2[t.1]? = some s := ⟨_, List.getElem?_eq_getElem (by rw [ha.1]; exact hto2.1)⟩
          have hs64 := ha.2 s (List.mem_of_getElem? hs2)
          obtain ⟨cs, hcs, hcn, hct, hset⟩ := own_row ho
          have hcell : cs[t.1]? = some (str s) := by
            have h1 : (cs.toList.take 256)[t.1]? = some (str s) := by rw [hct, List.getElem?_map, hs2]; rfl
            rw [List.getElem?_take, if_pos hto2.1] at h1
            simpa using h1
          have hstep : (kept.take (i + 1)).foldl (tornStep since) out = cur2.set t.1 (d.take t.2 ++ s.drop t.2) := by
            rw [take_snoc ht, List.foldl_append, hto]
            show tornStep since cur2 t = _
            unfold tornStep
            rw [hd2]
            simp only
            rw [List.getD_eq_getElem?_getD, hs2]; rfl
          -- region 24 DRAWS (store.go:259)
          refine W.drawG (fun w' => w'.heap[a18]? = some (.cells #[natv t.1, natv t.2] 25 (0, 0)) ∧ w'.heap[pb]? = some (.cells cs 9 (0, 0))) (fun j => Nat.beq j 17) [(0, true), (1, true), (2, true), (3, true), (4, true), (5, true), (6, true), (7, true), (8, true), (9, true), (10, true), (11, true), (12, true), (13, true), (14, true), (15, true), (16, true), (17, false)] (by repeat (first | exact PQ.body | with_reducible apply PQ.then | with_reducible apply PQ.block)) (by kernel_rfl) (by kernel_rfl) (by kernel_rfl) rfl ?_
          have kd := (Kt.refl No wT).drew
          have hS0 : wT.drew.heap[a18]? = some (.cells #[natv t.1, natv t.2] 25 (0, 0)) ∧ wT.drew.heap[pb]? = some (.cells cs 9 (0, 0)) := ⟨bT, hcs⟩
          refine RunG.pure rfl rfl (fun w' => (Ev.move rfl)) (fun _ => hS0) rfl rfl ?_   -- t88
          refine RunG.pure rfl rfl (fun w' => (Ev.fieldAddr fo_25_0 rfl rfl)) (fun _ => hS0) rfl rfl ?_   -- t89
          refine RunG.ev rfl rfl (by kernel_rfl) (fun w' hS => (Ev.load (v := natv t.1) sc_3 rfl (cell_of hS.1 rfl))) hS0 rfl rfl ?_   -- t90
          refine RunG.pure rfl rfl (fun w' => (Ev.move rfl)) (fun _ => hS0) rfl rfl ?_   -- t91
          refine RunG.pure rfl rfl (fun w' => (Ev.fieldAddr fo_25_1 rfl rfl)) (fun _ => hS0) rfl rfl ?_   -- t92
          refine RunG.ev rfl rfl (by kernel_rfl) (fun w' hS => (Ev.load (v := natv t.2) sc_3 rfl (cell_of hS.1 rfl))) hS0 rfl rfl ?_   -- t93
          refine RunG.pure rfl rfl (fun w' => (Ev.scut (s := d) (l := 0) (m := t.2) Tryz.underlying9 rfl (.inl ⟨rfl, rfl⟩) (.inr ⟨_, rfl, rfl⟩) (by omega) (by have := hto2.2; omega))) (fun _ => hS0) rfl rfl ?_   -- t94
          refine RunG.pure rfl rfl (fun w' => (Ev.move rfl)) (fun _ => hS0) rfl rfl ?_   -- t95
          refine RunG.pure rfl rfl (fun w' => (Ev.fieldAddr fo_25_0 rfl rfl)) (fun _ => hS0) rfl rfl ?_   -- t96
          refine RunG.ev rfl rfl (by kernel_rfl) (fun w' hS => (Ev.load (v := natv t.1) sc_3 rfl (cell_of hS.1 rfl))) hS0 rfl rfl ?_   -- t97
          refine RunG.pure rfl rfl (fun w' => (Ev.indexAddr (j := (t.1 : Int)) (m := t.1) Tryz.underlying34 es_9 rfl rfl (by have := hto2.1; omega) (by omega))) (fun _ => hS0) rfl rfl ?_   -- t98
          refine RunG.ev rfl rfl (by kernel_rfl) (fun w' hS => (Ev.load (v := str s) sc_9 rfl (cell_of hS.2 hcell))) hS0 rfl rfl ?_   -- t99
          refine RunG.pure rfl rfl (fun w' => (Ev.fieldAddr fo_25_1 rfl rfl)) (fun _ => hS0) rfl rfl ?_   -- t100
          refine RunG.ev rfl rfl (by kernel_rfl) (fun w' hS => (Ev.load (v := natv t.2) sc_3 rfl (cell_of hS.1 rfl))) hS0 rfl rfl ?_   -- t101
          refine RunG.pure rfl rfl (fun w' => (Ev.scut (s := s) (l := t.2) (m := s.length) Tryz.underlying9 rfl (.inr ⟨_, rfl, rfl⟩) (.inl ⟨rfl, rfl⟩) (by have := hto2.2; omega) (by omega))) (fun _ => hS0) rfl rfl ?_   -- t102
          refine RunG.pure rfl rfl (fun w' => (Ev.to (v' := str (d.take t.2 ++ s.drop t.2)) (by simp [List.take_of_length_le]) (Ev.sadd rfl rfl (by simp; omega)))) (fun _ => hS0) rfl rfl ?_   -- t103
          refine RunG.pure rfl rfl (fun w' => (Ev.indexAddr (j := (t.1 : Int)) (m := t.1) Tryz.underlying34 es_9 rfl rfl (by have := hto2.1; omega) (by omega))) (fun _ => hS0) rfl rfl ?_   -- t104
          refine RunG.step rfl rfl (Stp.store sc_9 sz_9 rfl rfl rfl hS0.2 (by have := hto2.1; omega) ?_)   -- tNone
          intro wE kE bE zE
          have hoE : wE.ownsRow 0 9 1 (.slice (some ⟨pb, 0, none⟩) 256 c43) 256 ((cur2.set t.1 (d.take t.2 ++ s.drop t.2)).map str) := by
            rw [List.map_set]
            exact hset wE t.1 (str (d.take t.2 ++ s.drop t.2)) hto2.1 bE
          refine ⟨(fun h => by cases h), ?_⟩
          refine RunG.nil ?_
          refine At.block ?_
          refine At.then ?_
          -- region 25 (store.go:257)
          refine W.region ?_
          refine Run.ev (Ev.add rfl rfl (by omega)) rfl rfl ?_   -- t105
          refine Run.ev (Ev.move rfl) rfl rfl ?_   -- t76
          refine Run.nil ?_
          exact At.round (i + 1, cur2.set t.1 (d.take t.2 ++ s.drop t.2)) (Env.sub_cons rfl (Env.sub_cons rfl (Env.sub_cons rfl (Env.sub_cons rfl (Env.sub_cons rfl (Env.sub_nil _)))))) ⟨by show i + 1 ≤ _; omega, (kt.no kd).new kE (by rintro i rfl; exact hpb0), hoE, (hm.kt0 kd).kt kE (hm.ne_cells hcs), hstep, ha.set (by rw [List.length_append, List.length_take, List.length_drop]; have := hto2.2; omega)⟩ (by show kept.length - (i + 1) < kept.length - i; omega)
        · have hd2 : mget since (t.1 : Int) = none := by
            cases hq : mget since (t.1 : Int) with
            | none => rfl
            | some d => rw [hq] at hc87; cases hc87
          have hstep : (kept.take (i + 1)).foldl (tornStep since) out = cur2 := by
            rw [take_snoc ht, List.foldl_append, hto]
            show tornStep since cur2 t = _
            unfold tornStep
            rw [hd2]
          refine W.skip ?_
          refine At.block ?_
          refine At.then ?_
          -- region 25 (store.go:257)
          refine W.region ?_
          refine Run.ev (Ev.add rfl rfl (by omega)) rfl rfl ?_   -- t105
          refine Run.ev (Ev.move rfl) rfl rfl ?_   -- t76
          refine Run.nil ?_
          exact At.round (i + 1, cur2) (Env.sub_cons rfl (Env.sub_cons rfl (Env.sub_cons rfl (Env.sub_cons rfl (Env.sub_cons rfl (Env.sub_nil _)))))) ⟨by show i + 1 ≤ _; omega, kt, ho, hm, hstep, ha⟩ (by show kept.length - (i + 1) < kept.length - i; omega)
      · replace hc77 := of_decide_eq_false hc77
        obtain rfl : i = kept.length := by omega
        rw [List.take_length] at hto
        refine W.exit ?_
        refine At.then_exit ?_
        refine At.then_exit ?_
        refine At.block_here ?_
        refine At.then ?_
        refine W.seq ?_
        -- region 26 (store.go:262)
        refine W.region ?_
        refine Run.ev (Ev.move rfl) rfl rfl ?_   -- t106
        refine Run.ev (Ev.assign rfl) rfl rfl ?_   -- t8
        refine Run.ev (Ev.assign rfl) rfl rfl ?_   -- t9
        refine Run.nil ?_
        refine At.then ?_
        refine W.ret ?_
        have e : crashP pages l1 kept = cur2 := by unfold crashP; rw [hc]; exact hto
        exact At.ret2 rfl rfl rfl rfl ⟨pb, c43, rfl, hpb0, by rw [e]; exact ho, kt⟩

end Go.Proofs.YtlcgeepjekcfgaaGreat
