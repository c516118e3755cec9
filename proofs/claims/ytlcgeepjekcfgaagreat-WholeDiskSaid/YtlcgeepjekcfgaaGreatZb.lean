/- A commit. -/
import Derived.Test.YtlcgeepjekcfgaaGreatZa
import Derived.Test.YtlcgeepjekcfgaaGreatZc
namespace Go.Proofs.YtlcgeepjekcfgaaGreat
open Go.RowKit
set_option linter.unusedVariables false
set_option linter.unusedSimpArgs false


theorem gFp_one {w : World} {mb : Nat} {fs : List (Bs × FV)} (h : FilesR w mb fs) (name : Bs) : (gFp (mget fs name)).oneCell' = true := by
  cases hg : mget fs name with
  | none => rfl
  | some f =>
    have hm : (filesV fs).map (·.1) = fs.map (·.1) := by simp [filesV, Function.comp_def]
    have hn := h.1.nodup
    rw [hm] at hn
    have := (mget_mem hn name f).1 hg
    exact (h.2 _ this).one
theorem gF_one {w : World} {mb : Nat} {fs : List (Bs × FV)} (h : FilesR w mb fs) (name : Bs) : ∀ v ∈ [str (gFd (mget fs name)), gFp (mget fs name)], v.oneCell' = true := by
  intro v hv
  simp at hv
  rcases hv with rfl | rfl
  · rfl
  · exact gFp_one h name
theorem pv_one {w : World} {d : Bs} {pv : Value} {n : Nat} {xs : List Value} (h : Sl w 3 1 pv n xs) : ∀ v ∈ [str d, pv], v.oneCell' = true := by
  intro v hv
  simp at hv
  rcases hv with rfl | rfl
  · rfl
  · exact h.one
theorem get_forget (fs : List (Bs × FV)) (name : Bs) : mget (forget fs) name = (mget fs name).map fun f => (f.1, f.2.1) := mget_map (fun (f : FV) => (f.1, f.2.1)) fs name
theorem old_none {fs : List (Bs × FV)} {name data : Bs} (h : (!(mget fs name).isSome || !decide (gFd (mget fs name) = data)) = true) : oldP (forget fs) name data = none := by
  unfold oldP
  rw [get_forget]
  cases hg : mget fs name with
  | none => rfl
  | some f =>
    rw [hg] at h
    have h' : f.1 ≠ data := fun e => by simp [gFd, e] at h
    simp [h']
theorem old_some {w : World} {mb : Nat} {fs : List (Bs × FV)} (hF : FilesR w mb fs) {name data : Bs} (h : (!(mget fs name).isSome || !decide (gFd (mget fs name) = data)) = false) : ∃ pages pv, gFd (mget fs name) = data ∧ gFp (mget fs name) = pv ∧ oldP (forget fs) name data = some pages ∧ Sl w 3 1 pv pages.length (pages.map natv) ∧ (name, (data, pages, pv)) ∈ fs := by
  cases hg : mget fs name with
  | none => rw [hg] at h; simp at h
  | some f =>
    rw [hg] at h
    replace h : f.1 = data := by
      by_cases e : f.1 = data
      · exact e
      · simp [gFd, e] at h
    have hm : (filesV fs).map (·.1) = fs.map (·.1) := by simp [filesV, Function.comp_def]
    have hn := hF.1.nodup
    rw [hm] at hn
    have hmem := (mget_mem hn name f).1 hg
    refine ⟨f.2.1, f.2.2, h, rfl, ?_, hF.2 _ hmem, ?_⟩
    · unfold oldP; rw [get_forget, hg]; simp [h]
    · rw [← h]; exact hmem
theorem comLoop_old {now : List (Bs × Bs)} {fs : List (Bs × (Bs × List Nat))} {name data : Bs} {r : List Bs} {c : CSt} {l : List Nat} (hd : (mget now name).getD [] = data) (h : oldP fs name data = some l) : comLoop now fs (name :: r) c = comLoop now fs r (c.add name data l) := by
  subst hd
  rw [comLoop]; simp only [h]
theorem comLoop_new {now : List (Bs × Bs)} {fs : List (Bs × (Bs × List Nat))} {name data : Bs} {r : List Bs} {c : CSt} {pages free : List Nat} {evs : List EvP} (hd : (mget now name).getD [] = data) (h : oldP fs name data = none) (hc : chainW c.free data = some (pages, free, evs)) : comLoop now fs (name :: r) c = comLoop now fs r ({ c with free := free, ev := c.ev ++ evs }.add name data pages) := by
  subst hd
  rw [comLoop]; simp only [h, hc]
theorem comLoop_fail {now : List (Bs × Bs)} {fs : List (Bs × (Bs × List Nat))} {name data : Bs} {r : List Bs} {c : CSt} (hd : (mget now name).getD [] = data) (h : oldP fs name data = none) (hc : chainW c.free data = none) : comLoop now fs (name :: r) c = none := by
  subst hd
  rw [comLoop]; simp only [h, hc]
theorem drop_get {α : Type} {l : List α} {j : Nat} {x : α} (h : l[j]? = some x) : l.drop j = x :: l.drop (j + 1) := by
  obtain ⟨hj, rfl⟩ := List.getElem?_eq_some_iff.1 h
  exact List.drop_eq_getElem_cons hj
theorem entP_len (name data : Bs) (l : List Nat) : (entP name data l).length = name.length + 5 := by simp [entP, be_length]; omega
theorem chainW_parts {free pages free' : List Nat} {evs : List EvP} {data : Bs} (h : chainW free data = some (pages, free', evs)) : pages.length + free'.length = free.length ∧ evs.length = pages.length ∧ (∀ k ∈ pages, k ∈ free) ∧ (∀ k ∈ free', k ∈ free) ∧ ∀ e ∈ evs, ∃ k ∈ free, e.1 = (k : Int) := by
  unfold chainW at h
  split at h
  · cases h
  · rename_i hl
    simp only [Option.some.injEq, Prod.mk.injEq] at h
    obtain ⟨rfl, rfl, rfl⟩ := h
    have hpl : (free.take (piecesP data).length).length = (piecesP data).length := by rw [List.length_take]; omega
    refine ⟨by rw [List.length_take, List.length_drop]; omega, linksP_len _ _ hpl, fun k hk => List.mem_of_mem_take hk, fun k hk => List.mem_of_mem_drop hk, ?_⟩
    intro e he
    obtain ⟨j, hj⟩ := List.getElem?_of_mem he
    have hj2 : j < (piecesP data).length := by
      have := (List.getElem?_eq_some_iff.1 hj).1
      rw [linksP_len _ _ hpl] at this; omega
    obtain ⟨k, hk⟩ : ∃ k, (free.take (piecesP data).length)[j]? = some k := ⟨_, List.getElem?_eq_getElem (by omega)⟩
    obtain ⟨p, hp⟩ : ∃ p, (piecesP data)[j]? = some p := ⟨_, List.getElem?_eq_getElem hj2⟩
    have := linksP_get _ _ j k p hk hp
    rw [hj] at this
    cases this
    exact ⟨k, List.mem_of_mem_take (List.mem_of_getElem? hk), rfl⟩
theorem freeP_lt (t : Sto) : ∀ k ∈ freeP t, k < 256 := by
  intro k hk
  simp only [freeP, freeTo, List.mem_filter, List.mem_range] at hk
  exact hk.1
theorem now_bound {now : List (Bs × Bs)} (hnb : ∀ p ∈ now, p.1.length ≤ 16 ∧ p.2.length ≤ 4000) {name data : Bs} (h : name ∈ now.map (·.1)) (hd : (mget now name).getD [] = data) : name.length ≤ 16 ∧ data.length ≤ 4000 := by
  rw [List.mem_map] at h
  obtain ⟨p, hp, rfl⟩ := h
  refine ⟨(hnb p hp).1, ?_⟩
  subst hd
  have key : ∀ (m : List (Bs × Bs)) (k d : Bs), mget m k = some d → ∃ q ∈ m, q.2 = d := by
    intro m
    induction m with
    | nil => intro k d h; cases h
    | cons x r ih =>
      intro k d h
      obtain ⟨a, u⟩ := x
      simp only [mget] at h
      split at h
      · cases h; exact ⟨_, List.mem_cons_self, rfl⟩
      · obtain ⟨q, hq, he⟩ := ih k d h
        exact ⟨q, List.mem_cons_of_mem _ hq, he⟩
  cases hg : mget now p.1 with
  | none => simp
  | some d =>
    obtain ⟨q, hq, he⟩ := key now p.1 d hg
    have := (hnb q hq).2
    rw [he] at this
    exact this
section
variable {w w' : World} {lb : Nat} {free : List Nat} {ev : List EvP} {fv evv : Value}
theorem LayR.obj (hL : LayR lb free ev fv evv w) {i : Nat} (hi : LayS lb evv i) : ∃ c T f, w.heap[i]? = some (.cells c T f) ∧ (T = 105 ∨ T = 118) := by
  rcases hi with rfl | hi
  · exact ⟨_, _, _, hL.hb, .inl rfl⟩
  · obtain ⟨c, hc⟩ := own_obj hL.he hi
    exact ⟨_, _, _, hc, .inr rfl⟩
theorem LayR.ne76 (hL : LayR lb free ev fv evv w) {a : Nat} {c : Array Value} {f : Nat × Nat} (ha : w.heap[a]? = some (.cells c 76 f)) : ¬ LayS lb evv a := fun hs => by
  obtain ⟨c', T, f', h1, h2⟩ := hL.obj hs
  rw [ha] at h1; cases h1; rcases h2 with h2 | h2 <;> cases h2
theorem Sl.lay {v : Value} {n : Nat} {xs : List Value} (h : Sl w 9 1 v n xs) (hL : LayR lb free ev fv evv w) (hk : Kt (LayS lb evv) w w') : Sl w' 9 1 v n xs :=
  h.kt hk (fun i q1 q2 q3 => by
    obtain ⟨c', T, f', h1, h2⟩ := hL.obj q3
    exact h.ne h1 (by intro c f e; cases e; rcases h2 with h2 | h2 <;> cases h2) q1 q2)
theorem Sl.lay3 {v : Value} {n : Nat} {xs : List Value} (h : Sl w 3 1 v n xs) (hL : LayR lb free ev fv evv w) (hk : Kt (LayS lb evv) w w') : Sl w' 3 1 v n xs :=
  h.kt hk (fun i q1 q2 q3 => by
    obtain ⟨c', T, f', h1, h2⟩ := hL.obj q3
    exact h.ne h1 (by intro c f e; cases e; rcases h2 with h2 | h2 <;> cases h2) q1 q2)
theorem Sl.mapk {e sz n mb : Nat} {v : Value} {xs : List Value} {κ : Type} {enc : κ → Value} {m : List (κ × Value)} (h : Sl w e sz v n xs) (hm : MapR enc w mb m) (hk : Kt (fun i => i = mb) w w') : Sl w' e sz v n xs :=
  h.kt hk (fun i q1 q2 q3 => by
    subst q3
    obtain ⟨es, c, ho⟩ := hm.obj
    exact h.ne ho (by intro c f e; cases e) q1 q2)
theorem Sl.byk {e n b : Nat} {v : Value} {xs : List Value} {S : Nat → Prop} (h : Sl w e 1 v n xs) (he : e ≠ 5 ∧ e ≠ 108) (hk : Kt S w w') (hS : ∀ i, S i → byS b w i) (h108 : ∃ c f, w.heap[b]? = some (.cells c 108 f)) : Sl w' e 1 v n xs :=
  h.kt hk (fun i q1 q2 q3 => by
    obtain ⟨c1, f1, h1⟩ := h108
    rcases hS i q3 with rfl | ⟨c, f, hc⟩
    · exact h.ne h1 (by intro c f e; cases e; exact he.2 rfl) q1 q2
    · exact h.ne hc (by intro c f e; cases e; exact he.1 rfl) q1 q2)
theorem Sl.bk {n0 n b : Nat} {v : Value} {xs : List Value} (h : Sl w 9 1 v n xs) (hk : Bk n0 b w w') (h108 : ∃ c f, w.heap[b]? = some (.cells c 108 f)) : Sl w' 9 1 v n xs := h.byk (by decide) hk.kt5 (fun i hi => hi.2) h108
theorem BuR.h108 {n0 b : Nat} {s : Bs} (h : BuR n0 w b s) : ∃ c f, w.heap[b]? = some (.cells c 108 f) := by obtain ⟨p, v, _, hb, _⟩ := h; exact ⟨_, _, hb⟩
theorem bf108 {b : Nat} {l : List Value} (h : Lib.IsBuilderF 108 5 b b l w) : ∃ c f, w.heap[b]? = some (.cells c 108 f) := by
  rcases h with ⟨_, v, hb, _⟩ | ⟨_, v, hb, _⟩ <;> exact ⟨_, _, hb⟩
end
theorem evs_drop : ∀ (l : List EvP) (j : Nat) (e : EvP), l[j]? = some e → ((evsV l).drop (j * 2)).take 2 = evV e
  | x :: r, 0, e, h => by
    simp at h; subst h
    simp [evsV, evV]
  | x :: r, j + 1, e, h => by
    simp at h
    have ih := evs_drop r j e h
    have : evsV (x :: r) = evV x ++ evsV r := by simp [evsV]
    rw [this, show (j + 1) * 2 = 2 + j * 2 by omega, ← List.drop_drop]
    have h2 : (evV x ++ evsV r).drop 2 = evsV r := by simp [evV]
    rw [h2]; exact ih
theorem ev_row {w : World} {v : Value} {l : List EvP} (h : w.ownsRow 0 118 2 v l.length (evsV l)) (hp : 0 < l.length) : ∃ g cap, v = .slice (some ⟨g, 0, none⟩) l.length cap := by
  rcases h.2 with ⟨_, h0⟩ | ⟨g, c, cur, rfl, _⟩
  · omega
  · exact ⟨g, c, rfl⟩
theorem ev_at {w : World} {g cap : Nat} {l : List EvP} (h : w.ownsRow 0 118 2 (.slice (some ⟨g, 0, none⟩) l.length cap) l.length (evsV l)) {j : Nat} {e : EvP} (hj : l[j]? = some e) : ∃ cur : Array Value, w.heap[g]? = some (.cells cur 118 (0, 0)) ∧ (cur.toList.drop (j * 2)).take 2 = evV e := by
  rcases h.2 with ⟨h0, _⟩ | ⟨g', c, cur, hv, _, hg, h1, h2, h3, h4⟩
  · cases h0
  · cases hv
    refine ⟨cur, hg, ?_⟩
    rw [← evs_drop l j e hj, ← h4, List.drop_take]
    rw [List.take_take]
    congr 1
    have := (List.getElem?_eq_some_iff.1 hj).1
    omega
theorem StoR.kta {b a : Nat} {t : Sto} {w w' : World} {c : Array Value} {f : Nat × Nat} (h : StoR b t w) (hk : Kt (fun i => i = a) w w') (ha : w.heap[a]? = some (.cells c 118 f)) (he : ∀ k, t.evv.ownBlock = some k → k ≠ a) : StoR b t w' := by
  refine ⟨h.q.kt hk (by intro e; subst e; rw [h.q.hb] at ha; cases ha) (h.q.hf.1.ne_cells ha) (fun e => own_ne h.q.hpg ha (by intro c f e; cases e) (by rw [← e]; rfl)) he (by rintro i rfl; exact ⟨_, ha, by intro c f e; cases e⟩), h.hmn.kt hk (h.hmn.ne_cells ha), h.hne⟩
theorem StoR.ktp {b : Nat} {t : Sto} {w w' : World} {ps : List Bs} (h : StoR b t w) (hk : Kt (fun i => i = t.pb) w w') (hp : w'.ownsRow 0 9 1 t.pv 256 (ps.map str)) : StoR b { t with pages := ps } w' := by
  obtain ⟨c, hc⟩ := own_obj h.q.hpg (k := t.pb) rfl
  have hS : ∀ i, i = t.pb → ∃ o, w.heap[i]? = some o ∧ ∀ c f, o ≠ .cells c 3 f := by rintro i rfl; exact ⟨_, hc, by intro c f e; cases e⟩
  refine ⟨⟨hk.at h.q.hb (by intro e; have := h.q.hb; rw [e, hc] at this; cases this), h.q.hf.kt hk (h.q.hf.1.ne_cells hc) hS, sl_kt h.q.hd hk hS, hp, hk.own h.q.hev (fun k hk' e => own_ne h.q.hev hc (by intro c f e; cases e) (e ▸ hk'))⟩, h.hmn.kt hk (h.hmn.ne_cells hc), h.hne⟩
structure G29 where
  j : Nat
  free : List Nat
  ev : List EvP
  fv : Value
  evv : Value
  nfs : List (Bs × FV)
  dirB : Bs

theorem st_one {w : World} {a b c k mb n : Nat} {pv : Value} {xs : List Value} (h : Sl w 3 1 pv n xs) : ∀ v ∈ [natv a, natv b, natv c, natv k, .map (some mb), pv], v.oneCell' = true := by
  intro v hv
  simp at hv
  rcases hv with rfl | rfl | rfl | rfl | rfl | rfl
  all_goals first | rfl | exact h.one

set_option maxHeartbeats 4000000 in
theorem Commit_calls (b : Nat) (t : Sto) (w : World) (h : StoR b t w) (hnb : ∀ p ∈ t.now, p.1.length ≤ 16 ∧ p.2.length ≤ 4000) (hn : t.now.length ≤ 30) (hk1 : t.k ≤ 1) (hg : t.g ≤ 1073741824) (hfs : ∀ p ∈ t.fs, ∀ k ∈ p.2.2.1, k < 256) (hpl : t.pages.length = 256) :
    Calls P 29 [.pointer (some ⟨b, 0, none⟩)].toArray w (Ret fun v w' => (v = natv 2 ∧ comP t.g (1 - t.k) t.now (forget t.fs) (freeP t) = none ∧ StoR b t w' ∧ Kt No w w') ∨
      ∃ c nfs mb dv evv, v = natv 0 ∧ comP t.g (1 - t.k) t.now (forget t.fs) (freeP t) = some c ∧ forget nfs = c.fs ∧ w.heap.size ≤ mb ∧ StoR b { t with g := t.g + 1, d := c.dl.headD 0, s := c.dlen, k := 1 - t.k, dl := c.dl, fs := nfs, pages := applyP t.pages c.ev, ev := c.ev, mb := mb, dv := dv, evv := evv } w' ∧ Kt (fun i => i = b ∨ i = t.pb) w w') := by
  refine enterW 172 Tryz.func29 rfl rfl rfl ?_
  refine W.seq ?_
  -- region 0 (store.go:182)
  refine W.region ?_
  refine Run.ev (Ev.assign rfl) rfl rfl ?_   -- t2
  refine Run.nil ?_
  refine At.then ?_
  refine W.seq ?_
  refine W.seq ?_
  -- region 1 (store.go:183)
  refine W.region ?_
  refine Run.ev (Ev.move rfl) rfl rfl ?_   -- t17
  refine Run.ev (Ev.nilCheck rfl) rfl rfl ?_   -- t18
  refine Run.ev (Ev.fieldAddr fo_57_0 rfl rfl) rfl rfl ?_   -- t19
  refine Run.ev (Ev.fieldAddr fo_50_0 rfl rfl) rfl rfl ?_   -- t20
  refine Run.ev (Ev.fieldAddr fo_46_0 rfl rfl) rfl rfl ?_   -- t21
  refine Run.ev (Ev.load sc_3 rfl (cell_of h.q.hb rfl)) rfl rfl ?_   -- t22
  refine Run.ev (Ev.eql (m := (t.g : Int)) rfl rfl rfl) rfl rfl ?_   -- t23
  refine Run.nil ?_
  refine At.then ?_
  refine W.cond rfl (fun hc23 => ?_) (fun hc23 => ?_)
  · replace hc23 := of_decide_eq_true hc23
    have hg2 : t.g = 1073741824 := by omega
    refine W.seq ?_
    -- region 2 (store.go:184)
    refine W.region ?_
    refine Run.ev (Ev.assign rfl) rfl rfl ?_   -- t2
    refine Run.nil ?_
    refine At.then ?_
    refine W.ret ?_
    refine At.then_ret ?_
    exact At.ret1 rfl rfl rfl (.inl ⟨rfl, by rw [comP, if_pos hg2], h, Kt.refl _ _⟩)
  · replace hc23 := of_decide_eq_false hc23
    have hg2 : ¬ t.g = 1073741824 := by omega
    refine W.skip ?_
    refine At.then ?_
    refine W.seq ?_
    -- region 3 (store.go:186)
    refine W.region ?_
    refine Run.ev (Ev.move rfl) rfl rfl ?_   -- t24
    refine Run.step rfl (Stp.callr en_35 rfl (free_calls b t w h) rfl ?_)   -- t25
    rintro v25 w25 ⟨o25, k25, f25⟩
    obtain ⟨pf, cf, rfl, hcf1, hcf2⟩ := (Sl.of_own o25).len
    refine Run.ev (Ev.build (vs := [(0, .slice pf (freeP t).length cf)]) (v := .agg #[.slice pf (freeP t).length cf, .slice none 0 0]) rfl rfl (by kernel_rfl)) rfl rfl ?_   -- t26
    refine Run.step rfl (Stp.box rfl rfl ?_)   -- t27
    intro a27 w27 e27 k27 b27 z27
    have kt := k25.no k27
    have hL : LayR a27 (freeP t) [] (.slice pf (freeP t).length cf) (.slice none 0 0) w27 := ⟨b27, Sl.of_own (k27.own0 o25), ⟨by simp [evsV], .inl ⟨rfl, rfl⟩⟩⟩
    refine Run.ev (Ev.assign rfl) rfl rfl ?_   -- t3
    refine Run.nil ?_
    refine At.then ?_
    refine W.seq ?_
    -- region 4 (store.go:187)
    refine W.region ?_
    refine Run.ev (Ev.move rfl) rfl rfl ?_   -- t28
    refine Run.ev (Ev.nilCheck rfl) rfl rfl ?_   -- t29
    refine Run.ev (Ev.fieldAddr fo_57_0 rfl rfl) rfl rfl ?_   -- t30
    refine Run.ev (Ev.fieldAddr fo_50_1 rfl rfl) rfl rfl ?_   -- t31
    refine Run.ev (Ev.load sc_3 rfl (cell_of (kt.at0 h.q.hb) rfl)) rfl rfl ?_   -- t32
    refine Run.ev (Ev.subN (m := 1) (n := t.k) (1 - t.k) rfl rfl (by omega) (by omega)) rfl rfl ?_   -- t33
    refine Run.step rfl (Stp.makeMap rfl ?_)   -- t34
    intro a34 w34 e34 k34 b34 z34
    replace kt := kt.no k34
    replace hL := hL.kt0 k34
    have hF : FilesR w34 a34 [] := ⟨MapR.empty b34, fun q hq => by cases hq⟩
    refine Run.ev (Ev.build (vs := [(1, natv (1 - t.k)), (2, .map (some a34))]) (v := .agg #[natv 0, natv 0, natv 0, natv (1 - t.k), .map (some a34), .slice none 0 0]) rfl rfl (by kernel_rfl)) rfl rfl ?_   -- t35
    refine Run.step rfl (Stp.alloc zc_50 rfl ?_)   -- t4
    intro a4 w4 e4 k4 b4 z4
    replace kt := kt.no k4
    replace hL := hL.kt0 k4
    replace hF := hF.kt0 k4
    refine Run.step rfl (Stp.storeA (vs := [natv 0, natv 0, natv 0, natv (1 - t.k), .map (some a34), .slice none 0 0]) ag_50 rfl rfl rfl (by simp [natv, Value.oneCell']) b4 (by simp) ?_)   -- tNone
    intro wS kS bS zS
    have s25 := k25.size
    replace kt := kt.new kS (by rintro i rfl; omega)
    replace hL := hL.kt kS (by omega) (by rintro i rfl; exact ⟨_, b4, (by intro c f e; cases e), (by intro c f e; cases e)⟩)
    replace hF := hF.kt kS (by omega) (by rintro i rfl; exact ⟨_, b4, by intro c f e; cases e⟩)
    refine Run.nil ?_
    refine At.then ?_
    refine W.seq ?_
    -- region 5 (store.go:188)
    refine W.region ?_
    refine Run.step rfl (Stp.alloc zc_108 rfl ?_)   -- t5
    intro a5 w5 e5 k5 b5 z5
    replace kt := kt.no k5
    have hI : CoI w a27 a4 a34 a5 w5.heap.size (freeP t) [] (.slice pf (freeP t).length cf) (.slice none 0 0) [] (fun w' => BuR w5.heap.size w' a5 []) #[natv 0, natv 0, natv 0, natv (1 - t.k), .map (some a34), .slice none 0 0] w5 := ⟨hL.kt0 k5, hF.kt0 k5, BuR.new b5, ⟨_, _, b5⟩, Bst.bu, k5.at0 bS, kt, (fun i hi => by cases hi), Nat.le_refl _⟩
    obtain ⟨n0, hn0⟩ : ∃ n0, n0 = w5.heap.size := ⟨_, rfl⟩
    rw [← hn0] at hI
    have hlow : w.heap.size ≤ a27 ∧ w.heap.size ≤ a34 ∧ w.heap.size ≤ a4 ∧ w.heap.size ≤ a5 ∧ w.heap.size ≤ n0 ∧ a5 < n0 := by omega
    clear hL hF bS b5 k5 e5 z5 e4 z4 k4 b4 kS zS e34 z34 k34 b34 e27 z27 k27 b27
    refine Run.nil ?_
    refine At.then ?_
    refine W.seq ?_
    refine W.seq ?_
    -- region 6 (store.go:189)
    refine W.region ?_
    refine Run.ev (Ev.move rfl) rfl rfl ?_   -- t36
    refine Run.step rfl (Stp.callr en_32 rfl (Names_calls b t w5 (h.kt0 hI.kt) (fun p hp => by have := (hnb p hp).1; omega) (by omega)) rfl ?_)   -- t37
    rintro v37 w37 ⟨o37, k37⟩
    replace hI := hI.kt0 k37
    have hnl : (sortP (t.now.map (·.1))).length = t.now.length := by simp [sortP]
    rw [← hnl] at o37
    obtain ⟨pn, cn, rfl, hcn1, hcn2⟩ := (Sl.of_own o37).len
    have hml := maxLen_le
    have hfl0 := freeTo_len (usedP t) 256
    refine Run.ev (Ev.len rfl Tryz.underlying34) rfl rfl ?_   -- t38
    refine Run.ev (Ev.move rfl) rfl rfl ?_   -- t39
    refine Run.nil ?_
    refine At.then ?_
    refine W.block ?_
    refine W.loop (fun (x : G29) => [(0, .pointer (some ⟨b, 0, none⟩)), (3, .pointer (some ⟨a27, 0, none⟩)), (4, .pointer (some ⟨a4, 0, none⟩)), (5, .pointer (some ⟨a5, 0, none⟩)), (37, .slice pn (sortP (t.now.map (·.1))).length cn), (38, natv (sortP (t.now.map (·.1))).length), (39, natv x.j)])
      (fun x w' => CoI w a27 a4 a34 a5 n0 x.free x.ev x.fv x.evv x.nfs (fun w' => BuR n0 w' a5 x.dirB) #[natv 0, natv 0, natv 0, natv (1 - t.k), .map (some a34), .slice none 0 0] w' ∧ Sl w' 9 1 (.slice pn (sortP (t.now.map (·.1))).length cn) (sortP (t.now.map (·.1))).length ((sortP (t.now.map (·.1))).map str) ∧ comLoop t.now (forget t.fs) ((sortP (t.now.map (·.1))).drop x.j) ⟨x.free, x.ev, forget x.nfs, x.dirB⟩ = comLoop t.now (forget t.fs) (sortP (t.now.map (·.1))) ⟨freeP t, [], [], []⟩ ∧ (∀ k ∈ x.free, k < 256) ∧ x.free.length + x.ev.length ≤ 256 ∧ x.dirB.length ≤ 30 * x.j ∧ x.j ≤ (sortP (t.now.map (·.1))).length ∧ ∀ e ∈ x.ev, -1 ≤ e.1 ∧ e.1 < 256)
      (fun x => (sortP (t.now.map (·.1))).length - x.j) ⟨0, freeP t, [], _, _, [], []⟩ ⟨hI, Sl.of_own o37, rfl, freeP_lt t, by show (freeP t).length + 0 ≤ 256; unfold freeP; omega, by simp, Nat.zero_le _, fun e he => by cases he⟩ (Env.sub_cons rfl (Env.sub_cons rfl (Env.sub_cons rfl (Env.sub_cons rfl (Env.sub_cons rfl (Env.sub_cons rfl (Env.sub_cons rfl (Env.sub_nil _)))))))) ?_
    clear hI o37 kt k37
    rintro ⟨j, free, ev, fv, evv, nfs, dirB⟩ w1 ⟨hI, hN, hp, hfl, hfe, hdl, hj, hev⟩
    dsimp only at hI hN hp hfl hfe hdl hj hev
    show W _ _ _ [(0, .pointer (some ⟨b, 0, none⟩)), (3, .pointer (some ⟨a27, 0, none⟩)), (4, .pointer (some ⟨a4, 0, none⟩)), (5, .pointer (some ⟨a5, 0, none⟩)), (37, .slice pn (sortP (t.now.map (·.1))).length cn), (38, natv (sortP (t.now.map (·.1))).length), (39, natv j)] w1
    refine W.seq ?_
    -- region 7 (store.go:189)
    refine W.region ?_
    refine Run.ev (Ev.lss rfl rfl rfl) rfl rfl ?_   -- t40
    refine Run.nil ?_
    refine At.then ?_
    refine W.seq ?_
    refine W.cond rfl (fun hc40 => ?_) (fun hc40 => ?_)
    · replace hc40 := of_decide_eq_true hc40
      obtain ⟨name, hs⟩ : ∃ s, (sortP (t.now.map (·.1)))[j]? = some s := ⟨_, List.getElem?_eq_getElem (by omega)⟩
      obtain ⟨b1, o1, rfl⟩ := hN.ptr (by omega)
      have hcell := hN.cell1 (j := j) (u := str name) (by rw [List.getElem?_map, hs]; rfl) (m := o1 + ((j : Nat) : Int).toNat * 1) (by omega)
      have hnm : name ∈ t.now.map (·.1) := (List.mergeSort_perm _ _).mem_iff.1 (List.mem_of_getElem? hs)
      obtain ⟨data, hdata⟩ : ∃ data, (mget t.now name).getD [] = data := ⟨_, rfl⟩
      have hbd := now_bound hnb hnm hdata
      rw [drop_get hs] at hp
      have hst := h.kt0 hI.kt
      refine W.skip ?_
      refine At.then ?_
      refine W.seq ?_
      refine W.block ?_
      refine W.seq ?_
      -- region 8 (store.go:189)
      refine W.region ?_
      refine Run.ev (Ev.indexAddr Tryz.underlying34 es_9 rfl rfl (by omega) rfl) rfl rfl ?_   -- t41
      refine Run.ev (Ev.load sc_9 rfl hcell) rfl rfl ?_   -- t42
      refine Run.ev (Ev.assign rfl) rfl rfl ?_   -- t7
      refine Run.nil ?_
      refine At.then ?_
      refine W.seq ?_
      -- region 9 (store.go:190)
      refine W.region ?_
      refine Run.ev (Ev.move rfl) rfl rfl ?_   -- t43
      refine Run.ev (Ev.nilCheck rfl) rfl rfl ?_   -- t44
      refine Run.ev (Ev.fieldAddr fo_57_2 rfl rfl) rfl rfl ?_   -- t45
      refine Run.ev (Ev.load sc_54 rfl (cell_of hst.q.hb rfl)) rfl rfl ?_   -- t46
      refine Run.ev (Ev.move rfl) rfl rfl ?_   -- t47
      refine Run.ev (Ev.to (v' := str data) (by rw [← hdata, now_look]; cases mget t.now name <;> rfl) (Ev.lookup (m := nowV t.now) (k := name) (ok := false) keyStr Tryz.underlying54 Tryz.underlying9 zv_9 rfl rfl hst.hmn)) rfl rfl ?_   -- t48
      refine Run.ev (Ev.assign rfl) rfl rfl ?_   -- t8
      refine Run.nil ?_
      refine At.then ?_
      refine W.seq ?_
      -- region 10 (store.go:191)
      refine W.region ?_
      refine Run.ev (Ev.move rfl) rfl rfl ?_   -- t50
      refine Run.ev (Ev.nilCheck rfl) rfl rfl ?_   -- t51
      refine Run.ev (Ev.fieldAddr fo_57_0 rfl rfl) rfl rfl ?_   -- t52
      refine Run.ev (Ev.fieldAddr fo_50_2 rfl rfl) rfl rfl ?_   -- t53
      refine Run.ev (Ev.load sc_47 rfl (cell_of hst.q.hb rfl)) rfl rfl ?_   -- t54
      refine Run.ev (Ev.move rfl) rfl rfl ?_   -- t55
      refine Run.ev (Ev.lookup (m := filesV t.fs) (k := name) (ok := true) keyStr Tryz.underlying47 Tryz.underlying9 zv_76 rfl rfl hst.q.hf.1) rfl rfl ?_   -- t56
      refine Run.ev (Ev.move rfl) rfl rfl ?_   -- t49
      refine Run.ev (Ev.to (v' := .agg #[str (gFd (mget t.fs name)), gFp (mget t.fs name)]) (by rw [show mget (filesV t.fs) name = (mget t.fs name).map fvV from mget_map fvV t.fs name]; exact gF_val _) (Ev.extract rfl rfl)) rfl rfl ?_   -- t57
      refine Run.ev (Ev.to (v' := .bool (mget t.fs name).isSome) (by rw [show mget (filesV t.fs) name = (mget t.fs name).map fvV from mget_map fvV t.fs name]; simp) (Ev.extract rfl rfl)) rfl rfl ?_   -- t58
      refine Run.step rfl (Stp.alloc zc_76 rfl ?_)   -- t9
      intro a9 w9 e9 k9 b9 z9
      have hn1 := hI.hn
      have hne95 : a9 ≠ a5 := by omega
      replace hI := hI.kt0 k9
      replace hN := hN.kt0 k9
      have l9 := hI.kt.size
      refine Run.step rfl (Stp.storeA (vs := [str (gFd (mget t.fs name)), gFp (mget t.fs name)]) ag_76 rfl rfl rfl (gF_one hst.q.hf name) b9 (by simp) ?_)   -- tNone
      intro wT kT bT zT
      replace hI := hI.new kT (by rintro i rfl; exact ⟨by have := k9.size; omega, _, _, b9⟩)
      replace hN := hN.kt kT (fun i q1 q2 q3 => by subst q3; exact hN.ne b9 (by intro c f e; cases e) q1 q2)
      replace bT : wT.heap[a9]? = some (.cells #[str (gFd (mget t.fs name)), gFp (mget t.fs name)] 76 (0, 0)) := bT
      refine Run.ev (Ev.assign rfl) rfl rfl ?_   -- t10
      refine Run.nil ?_
      refine At.then ?_
      refine W.seq ?_
      refine W.seq ?_
      -- region 11 (store.go:192)
      refine W.region ?_
      refine Run.ev (Ev.move rfl) rfl rfl ?_   -- t59
      refine Run.ev (Ev.not rfl) rfl rfl ?_   -- t60
      refine Run.ev (Ev.move rfl) rfl rfl ?_   -- t61
      refine Run.evg rfl rfl (fun hg => (Ev.fieldAddr fo_76_0 rfl rfl)) rfl ?_   -- t62
      refine Run.evg rfl rfl (fun hg => (Ev.load (v := str (gFd (mget t.fs name))) sc_9 (ifp hg) (cell_of bT rfl))) rfl ?_   -- t63
      refine Run.evg rfl rfl (fun hg => (Ev.move rfl)) rfl ?_   -- t64
      refine Run.evg rfl rfl (fun hg => (Ev.sneq (p := gFd (mget t.fs name)) (q := data) (ifp hg) (ifp hg) rfl)) rfl ?_   -- t65
      refine Run.ev (Ev.pick_or rfl rfl rfl) rfl rfl ?_   -- t66
      refine Run.nil ?_
      refine At.then ?_
      refine W.cond rfl (fun hc66 => ?_) (fun hc66 => ?_)
      · have hold := old_none hc66
        refine W.seq ?_
        -- region 12 (store.go:193)
        refine W.region ?_
        refine Run.ev (Ev.move rfl) rfl rfl ?_   -- t68
        refine Run.ev (Ev.move rfl) rfl rfl ?_   -- t69
        refine Run.step rfl (Stp.callr en_51 rfl (lchain_calls a27 free ev fv evv data _ hI.hL (by omega) hfl (by omega) (by omega)) rfl ?_)   -- t70
        rintro v70 w70 ⟨fv2, evv2, pv, free2, evs, pages, ok, rfl, hok, hL2, hpv, k70, he2⟩
        replace hN := hN.lay hI.hL k70
        have b70 := k70.at bT (hI.hL.ne76 bT)
        replace hI := hI.lay hlow.1 k70 hL2 he2
        refine Run.ev (Ev.move rfl) rfl rfl ?_   -- t67
        refine Run.ev (Ev.extract rfl rfl) rfl rfl ?_   -- t71
        refine Run.ev (Ev.extract rfl rfl) rfl rfl ?_   -- t72
        refine Run.ev (Ev.assign rfl) rfl rfl ?_   -- t11
        refine Run.ev (Ev.assign rfl) rfl rfl ?_   -- t12
        refine Run.nil ?_
        refine At.then ?_
        refine W.seq ?_
        refine W.seq ?_
        -- region 13 (store.go:194)
        refine W.region ?_
        refine Run.ev (Ev.move rfl) rfl rfl ?_   -- t73
        refine Run.ev (Ev.not rfl) rfl rfl ?_   -- t74
        refine Run.nil ?_
        refine At.then ?_
        refine W.cond rfl (fun hc74 => ?_) (fun hc74 => ?_)
        · have hok2 : ok = false := by simpa using hc74
          subst hok2
          simp only [Bool.false_eq_true, if_false] at hok
          have hp2 := (comLoop_fail hdata hold (r := (sortP (t.now.map (·.1))).drop (j + 1)) (c := ⟨free, ev, forget nfs, dirB⟩) hok.1).symm.trans hp
          refine W.seq ?_
          -- region 14 (store.go:195)
          refine W.region ?_
          refine Run.ev (Ev.assign rfl) rfl rfl ?_   -- t2
          refine Run.nil ?_
          refine At.then ?_
          refine W.ret ?_
          refine At.then_ret ?_
          refine At.then_ret ?_
          refine At.block_ret ?_
          refine At.then_ret ?_
          refine At.then_ret ?_
          refine At.block_ret ?_
          refine At.then_ret ?_
          exact At.ret1 rfl rfl rfl (.inl ⟨rfl, by rw [comP, if_neg hg2, ← hp2], h.kt0 hI.kt, hI.kt⟩)
        · have hok2 : ok = true := by simpa using hc74
          subst hok2
          simp only [if_true] at hok
          have hp2 := (comLoop_new hdata hold (r := (sortP (t.now.map (·.1))).drop (j + 1)) (c := ⟨free, ev, forget nfs, dirB⟩) hok).symm.trans hp
          obtain ⟨q1, q2, q3, q4, q5⟩ := chainW_parts hok
          have hpg : ∀ k ∈ pages, k < 256 := fun k hk => hfl k (q3 k hk)
          have hfl2 : ∀ k ∈ free2, k < 256 := fun k hk => hfl k (q4 k hk)
          have hfe2 : free2.length + (ev ++ evs).length ≤ 256 := by rw [List.length_append]; omega
          have hev2 : ∀ e ∈ ev ++ evs, -1 ≤ e.1 ∧ e.1 < 256 := fun e he => by
            rcases List.mem_append.1 he with he | he
            · exact hev e he
            · obtain ⟨k, hk, hk2⟩ := q5 e he; have := hfl k hk; omega
          obtain ⟨ev2, hev2d⟩ : ∃ ev2, ev2 = ev ++ evs := ⟨_, rfl⟩
          simp only [← hev2d] at hI hp2 hfe2 hev2
          refine W.skip ?_
          refine At.then ?_
          -- region 15 (store.go:197)
          refine W.region ?_
          refine Run.ev (Ev.move rfl) rfl rfl ?_   -- t75
          refine Run.ev (Ev.move rfl) rfl rfl ?_   -- t76
          refine Run.ev (Ev.build (vs := [(0, str data), (1, pv)]) (v := fvV (data, pages, pv)) rfl rfl (build76 hpv)) rfl rfl ?_   -- t77
          refine Run.step rfl (Stp.storeA (vs := [str data, pv]) ag_76 rfl rfl rfl (pv_one hpv) b70 (by simp) ?_)   -- tNone
          intro wV kV bV zV
          replace hpv := sl_kt hpv kV (by rintro i rfl; exact ⟨_, b70, by intro c f e; cases e⟩)
          replace hI := hI.new kV (by rintro i rfl; exact ⟨by have := k9.size; omega, _, _, b70⟩)
          replace hN := hN.kt kV (fun i q1 q2 q3 => by subst q3; exact hN.ne b70 (by intro c f e; cases e) q1 q2)
          replace bT : wV.heap[a9]? = some (.cells #[str data, pv] 76 (0, 0)) := bV
          refine Run.nil ?_
          refine At.then ?_
          refine W.seq ?_
          -- region 16 (store.go:199)
          refine W.region ?_
          refine Run.ev (Ev.fieldAddr fo_50_2 rfl rfl) rfl rfl ?_   -- t78
          refine Run.ev (Ev.load sc_47 rfl (cell_of hI.h4 rfl)) rfl rfl ?_   -- t79
          refine Run.ev (Ev.move rfl) rfl rfl ?_   -- t80
          refine Run.ev (Ev.to (v' := fvV (data, pages, pv)) rfl (Ev.loadA ag_76 rfl bT rfl rfl)) rfl rfl ?_   -- t81
          refine Run.step rfl (Stp.mapUpdate (k := name) (v := fvV (data, pages, pv)) keyStr Tryz.underlying47 Tryz.underlying9 rfl rfl rfl hI.hF.1 ?_)   -- tNone
          intro wX kX bX zX
          have b9x := kX.at bT (Ne.symm (hI.hF.1.ne_cells bT))
          replace hN := hN.mapk hI.hF.1 kX
          have hpv2 := hpv.mapk hI.hF.1 kX
          replace hI := hI.put hlow.2.1 kX bX hpv
          refine Run.nil ?_
          refine At.then ?_
          -- region 17 DRAWS (store.go:200)
          refine W.draw (fun w' => w'.heap[a9]? = some (.cells #[str data, pv] 76 (0, 0))) [(0, true), (1, true), (3, true), (5, true), (6, true), (9, true), (10, true), (2, false), (4, true), (7, false), (8, true), (11, false), (12, false), (13, true), (14, false)] (by repeat (first | exact PQ.body | with_reducible apply PQ.then | with_reducible apply PQ.block)) (by kernel_rfl) (by kernel_rfl) (by kernel_rfl) rfl ?_
          have kd := (Kt.refl No wX).drew
          have hS0 : wX.drew.heap[a9]? = some (.cells #[str data, pv] 76 (0, 0)) := b9x
          have hId := hI.kt0 kd
          have hNd := hN.kt0 kd
          have hpvd := hpv2.kt0 kd
          have hhd : pages.headD 0 < 256 := by
            cases pages with
            | nil => decide
            | cons x r => exact hpg x List.mem_cons_self
          refine RunD.ev rfl (fun w' hS => (Ev.move rfl)) hS0 rfl rfl ?_   -- t82
          refine RunD.ev rfl (fun w' hS => (Ev.slen rfl Tryz.underlying9)) hS0 rfl rfl ?_   -- t83
          refine RunD.ev rfl (fun w' hS => (Ev.move rfl)) hS0 rfl rfl ?_   -- t85
          refine RunD.ev rfl (fun w' hS => (Ev.move rfl)) hS0 rfl rfl ?_   -- t87
          refine RunD.ev rfl (fun w' hS => (Ev.slen rfl Tryz.underlying9)) hS0 rfl rfl ?_   -- t88
          refine RunD.ev rfl (fun w' hS => (Ev.fieldAddr fo_76_1 rfl rfl)) hS0 rfl rfl ?_   -- t91
          refine RunD.ev rfl (fun w' hS => (Ev.load (v := pv) sc_48 rfl (cell_of hS rfl))) hS0 rfl rfl ?_   -- t92
          refine RunD.step rfl rfl (Stp.callr en_45 rfl (digits_calls name.length 1 _ (by omega) (by omega)) rfl ?_)   -- t84
          rintro v84 w84 ⟨rfl, k84⟩
          replace hS0 := k84.at0 hS0
          replace hId := hId.kt0 k84
          replace hNd := hNd.kt0 k84
          replace hpvd := hpvd.kt0 k84
          refine ⟨hS0, ?_⟩
          refine RunD.ev rfl (fun w' hS => (Ev.sadd rfl rfl (by simp [be_length]; omega))) hS0 rfl rfl ?_   -- t86
          refine RunD.step rfl rfl (Stp.callr en_45 rfl (digits_calls data.length 2 _ (by omega) (by omega)) rfl ?_)   -- t89
          rintro v89 w89 ⟨rfl, k89⟩
          replace hS0 := k89.at0 hS0
          replace hId := hId.kt0 k89
          replace hNd := hNd.kt0 k89
          replace hpvd := hpvd.kt0 k89
          refine ⟨hS0, ?_⟩
          refine RunD.ev rfl (fun w' hS => (Ev.sadd rfl rfl (by simp [be_length]; omega))) hS0 rfl rfl ?_   -- t90
          refine RunD.step rfl rfl (Stp.callr en_53 rfl (begins_calls pages pv _ hpvd) rfl ?_)   -- t93
          rintro v93 w93 ⟨rfl, rfl⟩
          refine ⟨hS0, ?_⟩
          refine RunD.step rfl rfl (Stp.callr en_45 rfl (digits_calls (pages.headD 0) 2 _ (by omega) (by omega)) rfl ?_)   -- t94
          rintro v94 w94 ⟨rfl, k94⟩
          replace hS0 := k94.at0 hS0
          replace hId := hId.kt0 k94
          replace hNd := hNd.kt0 k94
          refine ⟨hS0, ?_⟩
          refine RunD.ev rfl (fun w' hS => (Ev.sadd rfl rfl (by simp [be_length]; omega))) hS0 rfl rfl ?_   -- t95
          refine RunD.step rfl rfl (Stp.callr en_52 rfl (WriteString_calls n0 a5 dirB (entP name data pages) _ hId.hB hId.hn (by rw [entP_len]; omega)) rfl ?_)   -- t96
          rintro v96 w96 ⟨hb96, hk96⟩
          replace hS0 := hk96.keep _ _ hS0 hne95 (by intro c f e; cases e)
          replace hNd := hNd.bk hk96 hId.h108
          replace hId := hId.wr hk96.kt5 (fun i hi => ⟨by rcases hi.1 with rfl | h1; omega; omega, hi.2⟩) hb96 Bst.bu hb96.h108
          refine ⟨hS0, ?_⟩
          refine RunD.nil ?_
          refine At.block ?_
          refine At.then ?_
          -- region 18 (store.go:189)
          refine W.region ?_
          refine Run.ev (Ev.add rfl rfl (by omega)) rfl rfl ?_   -- t97
          refine Run.ev (Ev.move rfl) rfl rfl ?_   -- t39
          refine Run.nil ?_
          exact At.round ⟨j + 1, free2, ev2, fv2, evv2, mset nfs name (data, pages, pv), dirB ++ entP name data pages⟩ (Env.sub_cons rfl (Env.sub_cons rfl (Env.sub_cons rfl (Env.sub_cons rfl (Env.sub_cons rfl (Env.sub_cons rfl (Env.sub_cons rfl (Env.sub_nil _)))))))) ⟨hId, hNd, by rw [← hp2]; congr 1; simp only [CSt.add]; congr 1; exact (mset_map (fun (f : FV) => (f.1, f.2.1)) nfs name (data, pages, pv)).symm, hfl2, hfe2, by show (dirB ++ entP name data pages).length ≤ 30 * (j + 1); rw [List.length_append, entP_len]; omega, by show j + 1 ≤ _; omega, hev2⟩ (by show (sortP (t.now.map (·.1))).length - (j + 1) < (sortP (t.now.map (·.1))).length - j; omega)
      · obtain ⟨pages, pv, hfd, hfp, hold, hpv, hmem⟩ := old_some (h.kt0 hI.kt).q.hf hc66
        rw [hfd, hfp] at bT
        have hpg : ∀ k ∈ pages, k < 256 := fun k hk => hfs _ hmem k hk
        have hp2 := (comLoop_old hdata hold (r := (sortP (t.now.map (·.1))).drop (j + 1)) (c := ⟨free, ev, forget nfs, dirB⟩)).symm.trans hp
        obtain ⟨free2, ev2, fv2, evv2, rfl, rfl, rfl, rfl⟩ : ∃ free2 ev2 fv2 evv2, free2 = free ∧ ev2 = ev ∧ fv2 = fv ∧ evv2 = evv := ⟨_, _, _, _, rfl, rfl, rfl, rfl⟩
        have hfl2 := hfl
        have hfe2 := hfe
        have hev2 := hev
        refine W.skip ?_
        refine At.then ?_
        refine W.seq ?_
        -- region 16 (store.go:199)
        refine W.region ?_
        refine Run.ev (Ev.fieldAddr fo_50_2 rfl rfl) rfl rfl ?_   -- t78
        refine Run.ev (Ev.load sc_47 rfl (cell_of hI.h4 rfl)) rfl rfl ?_   -- t79
        refine Run.ev (Ev.move rfl) rfl rfl ?_   -- t80
        refine Run.ev (Ev.to (v' := fvV (data, pages, pv)) rfl (Ev.loadA ag_76 rfl bT rfl rfl)) rfl rfl ?_   -- t81
        refine Run.step rfl (Stp.mapUpdate (k := name) (v := fvV (data, pages, pv)) keyStr Tryz.underlying47 Tryz.underlying9 rfl rfl rfl hI.hF.1 ?_)   -- tNone
        intro wX kX bX zX
        have b9x := kX.at bT (Ne.symm (hI.hF.1.ne_cells bT))
        replace hN := hN.mapk hI.hF.1 kX
        have hpv2 := hpv.mapk hI.hF.1 kX
        replace hI := hI.put hlow.2.1 kX bX hpv
        refine Run.nil ?_
        refine At.then ?_
        -- region 17 DRAWS (store.go:200)
        refine W.draw (fun w' => w'.heap[a9]? = some (.cells #[str data, pv] 76 (0, 0))) [(0, true), (1, true), (3, true), (5, true), (6, true), (9, true), (10, true), (2, false), (4, true), (7, false), (8, true), (11, false), (12, false), (13, true), (14, false)] (by repeat (first | exact PQ.body | with_reducible apply PQ.then | with_reducible apply PQ.block)) (by kernel_rfl) (by kernel_rfl) (by kernel_rfl) rfl ?_
        have kd := (Kt.refl No wX).drew
        have hS0 : wX.drew.heap[a9]? = some (.cells #[str data, pv] 76 (0, 0)) := b9x
        have hId := hI.kt0 kd
        have hNd := hN.kt0 kd
        have hpvd := hpv2.kt0 kd
        have hhd : pages.headD 0 < 256 := by
          cases pages with
          | nil => decide
          | cons x r => exact hpg x List.mem_cons_self
        refine RunD.ev rfl (fun w' hS => (Ev.move rfl)) hS0 rfl rfl ?_   -- t82
        refine RunD.ev rfl (fun w' hS => (Ev.slen rfl Tryz.underlying9)) hS0 rfl rfl ?_   -- t83
        refine RunD.ev rfl (fun w' hS => (Ev.move rfl)) hS0 rfl rfl ?_   -- t85
        refine RunD.ev rfl (fun w' hS => (Ev.move rfl)) hS0 rfl rfl ?_   -- t87
        refine RunD.ev rfl (fun w' hS => (Ev.slen rfl Tryz.underlying9)) hS0 rfl rfl ?_   -- t88
        refine RunD.ev rfl (fun w' hS => (Ev.fieldAddr fo_76_1 rfl rfl)) hS0 rfl rfl ?_   -- t91
        refine RunD.ev rfl (fun w' hS => (Ev.load (v := pv) sc_48 rfl (cell_of hS rfl))) hS0 rfl rfl ?_   -- t92
        refine RunD.step rfl rfl (Stp.callr en_45 rfl (digits_calls name.length 1 _ (by omega) (by omega)) rfl ?_)   -- t84
        rintro v84 w84 ⟨rfl, k84⟩
        replace hS0 := k84.at0 hS0
        replace hId := hId.kt0 k84
        replace hNd := hNd.kt0 k84
        replace hpvd := hpvd.kt0 k84
        refine ⟨hS0, ?_⟩
        refine RunD.ev rfl (fun w' hS => (Ev.sadd rfl rfl (by simp [be_length]; omega))) hS0 rfl rfl ?_   -- t86
        refine RunD.step rfl rfl (Stp.callr en_45 rfl (digits_calls data.length 2 _ (by omega) (by omega)) rfl ?_)   -- t89
        rintro v89 w89 ⟨rfl, k89⟩
        replace hS0 := k89.at0 hS0
        replace hId := hId.kt0 k89
        replace hNd := hNd.kt0 k89
        replace hpvd := hpvd.kt0 k89
        refine ⟨hS0, ?_⟩
        refine RunD.ev rfl (fun w' hS => (Ev.sadd rfl rfl (by simp [be_length]; omega))) hS0 rfl rfl ?_   -- t90
        refine RunD.step rfl rfl (Stp.callr en_53 rfl (begins_calls pages pv _ hpvd) rfl ?_)   -- t93
        rintro v93 w93 ⟨rfl, rfl⟩
        refine ⟨hS0, ?_⟩
        refine RunD.step rfl rfl (Stp.callr en_45 rfl (digits_calls (pages.headD 0) 2 _ (by omega) (by omega)) rfl ?_)   -- t94
        rintro v94 w94 ⟨rfl, k94⟩
        replace hS0 := k94.at0 hS0
        replace hId := hId.kt0 k94
        replace hNd := hNd.kt0 k94
        refine ⟨hS0, ?_⟩
        refine RunD.ev rfl (fun w' hS => (Ev.sadd rfl rfl (by simp [be_length]; omega))) hS0 rfl rfl ?_   -- t95
        refine RunD.step rfl rfl (Stp.callr en_52 rfl (WriteString_calls n0 a5 dirB (entP name data pages) _ hId.hB hId.hn (by rw [entP_len]; omega)) rfl ?_)   -- t96
        rintro v96 w96 ⟨hb96, hk96⟩
        replace hS0 := hk96.keep _ _ hS0 hne95 (by intro c f e; cases e)
        replace hNd := hNd.bk hk96 hId.h108
        replace hId := hId.wr hk96.kt5 (fun i hi => ⟨by rcases hi.1 with rfl | h1; omega; omega, hi.2⟩) hb96 Bst.bu hb96.h108
        refine ⟨hS0, ?_⟩
        refine RunD.nil ?_
        refine At.block ?_
        refine At.then ?_
        -- region 18 (store.go:189)
        refine W.region ?_
        refine Run.ev (Ev.add rfl rfl (by omega)) rfl rfl ?_   -- t97
        refine Run.ev (Ev.move rfl) rfl rfl ?_   -- t39
        refine Run.nil ?_
        exact At.round ⟨j + 1, free2, ev2, fv2, evv2, mset nfs name (data, pages, pv), dirB ++ entP name data pages⟩ (Env.sub_cons rfl (Env.sub_cons rfl (Env.sub_cons rfl (Env.sub_cons rfl (Env.sub_cons rfl (Env.sub_cons rfl (Env.sub_cons rfl (Env.sub_nil _)))))))) ⟨hId, hNd, by rw [← hp2]; congr 1; simp only [CSt.add]; congr 1; exact (mset_map (fun (f : FV) => (f.1, f.2.1)) nfs name (data, pages, pv)).symm, hfl2, hfe2, by show (dirB ++ entP name data pages).length ≤ 30 * (j + 1); rw [List.length_append, entP_len]; omega, by show j + 1 ≤ _; omega, hev2⟩ (by show (sortP (t.now.map (·.1))).length - (j + 1) < (sortP (t.now.map (·.1))).length - j; omega)
    · replace hc40 := of_decide_eq_false hc40
      obtain rfl : j = (sortP (t.now.map (·.1))).length := by omega
      rw [List.drop_length, comLoop] at hp
      clear hN
      refine W.exit ?_
      refine At.then_exit ?_
      refine At.then_exit ?_
      refine At.block_here ?_
      refine At.then ?_
      refine W.seq ?_
      -- region 19 (store.go:202)
      refine W.region ?_
      refine Run.ev (Ev.move rfl) rfl rfl ?_   -- t99
      refine Run.step rfl (Stp.callr en_54 rfl (String_calls a5 dirB n0 _ hI.hB (by omega)) rfl ?_)   -- t100
      rintro v100 w100 ⟨rfl, hib, hbl, hok0⟩
      have kS := okt hbl hok0
      replace hI := hI.wr kS (fun i hi => ⟨by omega, hi.2⟩) hib Bst.bf (bf108 hib)
      refine Run.step rfl (Stp.callr en_51 rfl (lchain_calls a27 free ev fv evv dirB _ hI.hL (by omega) hfl (by omega) (by omega)) rfl ?_)   -- t101
      rintro v101 w101 ⟨fv2, evv2, pv, free2, evs, pages, ok, rfl, hok, hL2, hpv, k101, he2⟩
      replace hI := hI.lay hlow.1 k101 hL2 he2
      refine Run.ev (Ev.move rfl) rfl rfl ?_   -- t98
      refine Run.ev (Ev.extract rfl rfl) rfl rfl ?_   -- t102
      refine Run.ev (Ev.extract rfl rfl) rfl rfl ?_   -- t103
      refine Run.ev (Ev.assign rfl) rfl rfl ?_   -- t13
      refine Run.ev (Ev.assign rfl) rfl rfl ?_   -- t14
      refine Run.nil ?_
      refine At.then ?_
      refine W.seq ?_
      refine W.seq ?_
      -- region 20 (store.go:203)
      refine W.region ?_
      refine Run.ev (Ev.move rfl) rfl rfl ?_   -- t104
      refine Run.ev (Ev.not rfl) rfl rfl ?_   -- t105
      refine Run.nil ?_
      refine At.then ?_
      refine W.cond rfl (fun hc105 => ?_) (fun hc105 => ?_)
      · have hok2 : ok = false := by simpa using hc105
        subst hok2
        simp only [Bool.false_eq_true, if_false] at hok
        refine W.seq ?_
        -- region 21 (store.go:204)
        refine W.region ?_
        refine Run.ev (Ev.assign rfl) rfl rfl ?_   -- t2
        refine Run.nil ?_
        refine At.then ?_
        refine W.ret ?_
        refine At.then_ret ?_
        exact At.ret1 rfl rfl rfl (.inl ⟨rfl, by rw [comP, if_neg hg2, ← hp]; simp only; rw [hok.1], h.kt0 hI.kt, hI.kt⟩)
      · have hok2 : ok = true := by simpa using hc105
        subst hok2
        simp only [if_true] at hok
        refine W.skip ?_
        refine At.then ?_
        refine W.seq ?_
        -- region 22 (store.go:206)
        refine W.region ?_
        refine Run.ev (Ev.move rfl) rfl rfl ?_   -- t106
        refine Run.ev (Ev.fieldAddr fo_50_3 rfl rfl) rfl rfl ?_   -- t107
        refine Run.step rfl (Stp.store sc_48 sz_48 rfl rfl hpv.one hI.h4 (by simp) ?_)   -- tNone
        intro wA kA bA zA
        replace hpv := sl_kt hpv kA (by rintro i rfl; exact ⟨_, hI.h4, by intro c f e; cases e⟩)
        replace hI := hI.st4 hlow.2.2.1 kA bA
        have hbl := blk_lt h.q.hb
        obtain ⟨q1, q2, q3, q4, q5⟩ := chainW_parts hok
        have hhd : pages.headD 0 < 256 := by
          cases pages with
          | nil => decide
          | cons x r => exact hfl x (q3 x List.mem_cons_self)
        refine Run.nil ?_
        refine At.then ?_
        refine W.seq ?_
        -- region 23 DRAWS (store.go:207)
        refine W.draw (fun w' => w'.heap[b]? = some (.cells (t.cells (.map (some t.mn))) 57 (0, 0))) [(0, true), (1, true), (2, true), (3, true), (4, true), (5, true), (6, true), (7, true), (8, false), (9, false), (10, true), (11, true), (12, false)] (by repeat (first | exact PQ.body | with_reducible apply PQ.then | with_reducible apply PQ.block)) (by kernel_rfl) (by kernel_rfl) (by kernel_rfl) rfl ?_
        have kd := (Kt.refl No wA).drew
        have hS0 : wA.drew.heap[b]? = some (.cells (t.cells (.map (some t.mn))) 57 (0, 0)) := (h.kt0 hI.kt).q.hb
        replace hI := hI.kt0 kd
        replace hpv := hpv.kt0 kd
        refine RunD.ev rfl (fun w' hS => (Ev.move rfl)) hS0 rfl rfl ?_   -- t108
        refine RunD.ev rfl (fun w' hS => (Ev.nilCheck rfl)) hS0 rfl rfl ?_   -- t109
        refine RunD.ev rfl (fun w' hS => (Ev.fieldAddr fo_57_0 rfl rfl)) hS0 rfl rfl ?_   -- t110
        refine RunD.ev rfl (fun w' hS => (Ev.fieldAddr fo_50_0 rfl rfl)) hS0 rfl rfl ?_   -- t111
        refine RunD.ev rfl (fun w' hS => (Ev.fieldAddr fo_46_0 rfl rfl)) hS0 rfl rfl ?_   -- t112
        refine RunD.ev rfl (fun w' hS => (Ev.load sc_3 rfl (cell_of hS rfl))) hS0 rfl rfl ?_   -- t113
        refine RunD.ev rfl (fun w' hS => (Ev.addN (m := t.g) (n := 1) rfl rfl (by omega))) hS0 rfl rfl ?_   -- t114
        refine RunD.ev rfl (fun w' hS => (Ev.move rfl)) hS0 rfl rfl ?_   -- t115
        refine RunD.step rfl rfl (Stp.callr en_53 rfl (begins_calls pages pv _ hpv) rfl ?_)   -- t116
        rintro v116 w116 ⟨rfl, rfl⟩
        refine ⟨hS0, ?_⟩
        refine RunD.step rfl rfl (Stp.callr en_55 rfl (LenF_calls a5 dirB _ hI.hB) rfl ?_)   -- t117
        rintro v117 w117 ⟨rfl, rfl⟩
        refine ⟨hS0, ?_⟩
        refine RunD.ev rfl (fun w' hS => (Ev.build (vs := [(0, natv (t.g + 1)), (1, natv (pages.headD 0)), (2, natv dirB.length)]) (v := rootV (t.g + 1, pages.headD 0, dirB.length)) rfl rfl (by kernel_rfl))) hS0 rfl rfl ?_   -- t118
        refine RunD.ev rfl (fun w' hS => (Ev.fieldAddr fo_50_0 rfl rfl)) hS0 rfl rfl ?_   -- t119
        refine RunD.step rfl rfl (Stp.storeA (vs := [natv (t.g + 1), natv (pages.headD 0), natv dirB.length]) ag_46 rfl rfl rfl (by simp [natv, Value.oneCell']) hI.h4 (by simp) ?_)   -- tNone
        intro wB kB bB zB
        replace hpv := sl_kt hpv kB (by rintro i rfl; exact ⟨_, hI.h4, by intro c f e; cases e⟩)
        replace hS0 := kB.at hS0 (by omega)
        replace bB : wB.heap[a4]? = some (.cells #[natv (t.g + 1), natv (pages.headD 0), natv dirB.length, natv (1 - t.k), .map (some a34), pv] 50 (0, 0)) := bB
        replace hI := hI.st4 hlow.2.2.1 kB bB
        refine ⟨hS0, ?_⟩
        refine RunD.nil ?_
        refine At.then ?_
        refine W.seq ?_
        -- region 24 (store.go:208)
        refine W.region ?_
        refine Run.ev (Ev.move rfl) rfl rfl ?_   -- t120
        refine Run.step rfl (Stp.callr en_56 rfl (safe_calls a27 free2 (ev ++ evs) fv2 evv2 _ hI.hL (by rw [List.length_append]; omega)) rfl ?_)   -- t121
        rintro v121 w121 ⟨evv3, hL3, k121, he3⟩
        replace hpv := hpv.lay3 hI.hL k121
        replace hI := hI.lay hlow.1 k121 hL3 he3
        obtain ⟨ev3, hev3⟩ : ∃ ev3, ev3 = ev ++ evs ++ [(-1, [])] := ⟨_, rfl⟩
        have hl3 : ev3.length ≤ 1000 := by rw [hev3, List.length_append, List.length_append]; simp; omega
        rw [← hev3] at hI
        refine Run.nil ?_
        refine At.then ?_
        refine W.seq ?_
        -- region 25 DRAWS (store.go:209)
        refine W.drawG (fun w' => w'.heap[a27]? = some (.cells #[fv2, evv3] 105 (0, 0)) ∧ w'.heap[a4]? = some (.cells #[natv (t.g + 1), natv (pages.headD 0), natv dirB.length, natv (1 - t.k), .map (some a34), pv] 50 (0, 0))) (fun j => Nat.beq j 15) [(0, true), (1, true), (2, true), (3, true), (4, true), (5, true), (6, true), (7, true), (8, true), (9, false), (10, true), (11, false), (12, false), (13, true), (14, true), (15, false)] (by repeat (first | exact PQ.body | with_reducible apply PQ.then | with_reducible apply PQ.block)) (by kernel_rfl) (by kernel_rfl) (by kernel_rfl) rfl ?_
        have kd2 := (Kt.refl No w121).drew
        have hS0 : w121.drew.heap[a27]? = some (.cells #[fv2, evv3] 105 (0, 0)) ∧ w121.drew.heap[a4]? = some (.cells #[natv (t.g + 1), natv (pages.headD 0), natv dirB.length, natv (1 - t.k), .map (some a34), pv] 50 (0, 0)) := ⟨hI.hL.hb, hI.h4⟩
        replace hI := hI.kt0 kd2
        replace hpv := hpv.kt0 kd2
        refine RunG.pure rfl rfl (fun w' => (Ev.move rfl)) (fun _ => hS0) rfl rfl ?_   -- t122
        refine RunG.pure rfl rfl (fun w' => (Ev.move rfl)) (fun _ => hS0) rfl rfl ?_   -- t123
        refine RunG.pure rfl rfl (fun w' => (Ev.nilCheck rfl)) (fun _ => hS0) rfl rfl ?_   -- t124
        refine RunG.pure rfl rfl (fun w' => (Ev.fieldAddr fo_105_1 rfl rfl)) (fun _ => hS0) rfl rfl ?_   -- t125
        refine RunG.ev rfl rfl (by kernel_rfl) (fun w' hS => (Ev.load sc_55 rfl (cell_of hS.1 rfl))) hS0 rfl rfl ?_   -- t126
        refine RunG.pure rfl rfl (fun w' => (Ev.fieldAddr fo_50_1 rfl rfl)) (fun _ => hS0) rfl rfl ?_   -- t127
        refine RunG.ev rfl rfl (by kernel_rfl) (fun w' hS => (Ev.load (v := natv (1 - t.k)) sc_3 rfl (cell_of hS.2 rfl))) hS0 rfl rfl ?_   -- t128
        refine RunG.pure rfl rfl (fun w' => (Ev.fieldAddr fo_50_0 rfl rfl)) (fun _ => hS0) rfl rfl ?_   -- t129
        refine RunG.ev rfl rfl (by kernel_rfl) (fun w' hS => (Ev.to (v' := rootV (t.g + 1, pages.headD 0, dirB.length)) rfl (Ev.loadA ag_46 rfl hS.2 rfl rfl))) hS0 rfl rfl ?_   -- t130
        refine RunG.step rfl rfl (Stp.callr en_19 rfl (page_calls (t.g + 1) (pages.headD 0) dirB.length _ (by omega) (by omega) (by omega)) rfl ?_)   -- t131
        rintro v131 w131 ⟨rfl, k131⟩
        replace hI := hI.kt0 k131
        replace hpv := hpv.kt0 k131
        replace hS0 : _ ∧ _ := ⟨hI.hL.hb, hI.h4⟩
        refine ⟨fun _ => hS0, ?_⟩
        refine RunG.pure rfl rfl (fun w' => (Ev.build (vs := [(0, natv (1 - t.k)), (1, str (rootP (t.g + 1) (pages.headD 0) dirB.length))]) (v := .agg #[natv (1 - t.k), str (rootP (t.g + 1) (pages.headD 0) dirB.length)]) rfl rfl (by kernel_rfl))) (fun _ => hS0) rfl rfl ?_   -- t132
        refine RunG.step rfl rfl (Stp.bslice1 Tryz.underlying55 ei_118 rfl (by decide) (by decide) rfl rfl rfl ?_)   -- t133
        intro a133 w133 e133 k133 b133 z133
        replace hI := hI.kt0 k133
        replace hpv := hpv.kt0 k133
        replace hS0 : _ ∧ _ := ⟨hI.hL.hb, hI.h4⟩
        refine ⟨fun _ => hS0, ?_⟩
        refine RunG.step rfl rfl (Stp.append (n := ev3.length) (m := 1) Tryz.underlying55 ei_118 rfl (by decide) rfl rfl hI.hL.he b133 (evV_one (((1 - t.k : Nat) : Int), rootP (t.g + 1) (pages.headD 0) dirB.length)) (by omega) (by omega) rfl ?_)   -- t134
        intro v134 w134 o134 k134 n134
        have hnb : ¬ evv3.ownBlock = some a27 := own_ne hI.hL.he hI.hL.hb (by intro c f e; cases e)
        have hob : ∀ i, evv3.ownBlock = some i → ∃ c, w133.heap[i]? = some (.cells c 118 (0, 0)) := fun i hi => own_obj hI.hL.he hi
        have hb134 := k134.at hI.hL.hb hnb
        have hf134 := sl_kt hI.hL.hf k134 (fun i hi => by obtain ⟨c, hc⟩ := hob i hi; exact ⟨_, hc, by intro c f e; cases e⟩)
        replace hS0 : _ ∧ _ := ⟨hb134, k134.at hI.h4 (fun hi => by obtain ⟨c, hc⟩ := hob _ hi; rw [hI.h4] at hc; cases hc)⟩
        refine ⟨fun _ => hS0, ?_⟩
        refine RunG.pure rfl rfl (fun w' => (Ev.nilCheck rfl)) (fun _ => hS0) rfl rfl ?_   -- t135
        refine RunG.pure rfl rfl (fun w' => (Ev.fieldAddr fo_105_1 rfl rfl)) (fun _ => hS0) rfl rfl ?_   -- t136
        refine RunG.step rfl rfl (Stp.store sc_55 sz_55 rfl rfl (own_one o134) hb134 (by simp) ?_)   -- tNone
        intro wC kC bC zC
        have o134b : w134.ownsRow 0 118 2 v134 (ev3 ++ [(((1 - t.k : Nat) : Int), rootP (t.g + 1) (pages.headD 0) dirB.length)]).length (evsV (ev3 ++ [(((1 - t.k : Nat) : Int), rootP (t.g + 1) (pages.headD 0) dirB.length)])) := by
          rw [evs_snoc, List.length_append]
          exact o134
        have hL4 : LayR a27 free2 (ev3 ++ [(((1 - t.k : Nat) : Int), rootP (t.g + 1) (pages.headD 0) dirB.length)]) fv2 v134 wC := ⟨bC, sl_kt hf134 kC (by rintro i rfl; exact ⟨_, hb134, by intro c f e; cases e⟩), kC.own o134b (fun i hi e => own_ne o134b hb134 (by intro c f e; cases e) (e ▸ hi))⟩
        have kLC : Kt (LayS a27 evv3) w133 wC := (k134.mono (fun i _ h => .inr h)).trans kC (fun i _ h => .inl h)
        replace hpv := hpv.lay3 hI.hL kLC
        replace hI := hI.lay hlow.1 kLC hL4 n134
        obtain ⟨ev4, hev4⟩ : ∃ ev4, ev4 = ev3 ++ [(((1 - t.k : Nat) : Int), rootP (t.g + 1) (pages.headD 0) dirB.length)] := ⟨_, rfl⟩
        have hl4 : ev4.length ≤ 2000 := by rw [hev4, List.length_append]; simp; omega
        rw [← hev4] at hI
        refine ⟨(fun h => by cases h), ?_⟩
        refine RunG.nil ?_
        refine At.then ?_
        refine W.seq ?_
        -- region 26 (store.go:210)
        refine W.region ?_
        refine Run.ev (Ev.move rfl) rfl rfl ?_   -- t137
        refine Run.step rfl (Stp.callr en_56 rfl (safe_calls a27 free2 ev4 fv2 v134 _ hI.hL (by omega)) rfl ?_)   -- t138
        rintro v138 w138 ⟨evv5, hL5, k138, he5⟩
        replace hpv := hpv.lay3 hI.hL k138
        replace hI := hI.lay hlow.1 k138 hL5 he5
        obtain ⟨ev5, hev5⟩ : ∃ ev5, ev5 = ev4 ++ [(-1, [])] := ⟨_, rfl⟩
        have hl5 : 0 < ev5.length := by rw [hev5, List.length_append]; simp
        have hl5b : ev5.length ≤ 3000 := by rw [hev5, List.length_append]; simp; omega
        rw [← hev5] at hI
        obtain ⟨ge, ce, rfl⟩ := ev_row hI.hL.he hl5
        have hevb : ∀ e ∈ ev5, -1 ≤ e.1 ∧ e.1 < 256 := by
          rw [hev5, hev4, hev3]
          intro e he
          simp only [List.mem_append, List.mem_singleton] at he
          rcases he with (((he | he) | rfl) | rfl) | rfl
          · exact hev e he
          · obtain ⟨k, hk, hk2⟩ := q5 e he; have := hfl k hk; omega
          · simp
          · simp; omega
          · simp
        have hcom : comP t.g (1 - t.k) t.now (forget t.fs) (freeP t) = some ⟨pages, forget nfs, ev5, dirB.length⟩ := by
          rw [comP, if_neg hg2, ← hp]; simp only; rw [hok]; simp only; rw [hev5, hev4, hev3]
        have hst := h.kt0 hI.kt
        have helt : ∀ i, t.evv.ownBlock = some i → i < w.heap.size := fun i hi => by obtain ⟨c, hc⟩ := own_obj h.q.hev hi; exact blk_lt hc
        have hpbl := own_lt h.q.hpg
        have hmnl := h.hmn.lt
        have hwk := hI.kt.size
        refine Run.nil ?_
        refine At.then ?_
        refine W.seq ?_
        refine W.seq ?_
        -- region 27 (store.go:211)
        refine W.region ?_
        refine Run.ev (Ev.move rfl) rfl rfl ?_   -- t139
        refine Run.ev (Ev.nilCheck rfl) rfl rfl ?_   -- t140
        refine Run.ev (Ev.fieldAddr fo_105_1 rfl rfl) rfl rfl ?_   -- t141
        refine Run.ev (Ev.load (v := .slice (some ⟨ge, 0, none⟩) ev5.length ce) sc_55 rfl (cell_of hI.hL.hb rfl)) rfl rfl ?_   -- t142
        refine Run.ev (Ev.len rfl Tryz.underlying55) rfl rfl ?_   -- t143
        refine Run.ev (Ev.move rfl) rfl rfl ?_   -- t144
        refine Run.nil ?_
        refine At.then ?_
        refine W.block ?_
        refine W.loop (fun (j : Nat) => [(0, .pointer (some ⟨b, 0, none⟩)), (3, .pointer (some ⟨a27, 0, none⟩)), (4, .pointer (some ⟨a4, 0, none⟩)), (142, .slice (some ⟨ge, 0, none⟩) ev5.length ce), (143, natv ev5.length), (144, natv j)])
          (fun j w' => j ≤ ev5.length ∧ w.heap.size ≤ w'.heap.size ∧ LayR a27 free2 ev5 fv2 (.slice (some ⟨ge, 0, none⟩) ev5.length ce) w' ∧ FilesR w' a34 nfs ∧ w'.heap[a4]? = some (.cells #[natv (t.g + 1), natv (pages.headD 0), natv dirB.length, natv (1 - t.k), .map (some a34), pv] 50 (0, 0)) ∧ Sl w' 3 1 pv pages.length (pages.map natv) ∧ StoR b { t with pages := applyP t.pages (ev5.take j) } w' ∧ Kt (fun i => i = t.pb) w w')
          (fun j => ev5.length - j) 0 ⟨Nat.zero_le _, hwk, hI.hL, hI.hF, hI.h4, hpv, hst, hI.kt.mono (fun _ _ e => e.elim)⟩ (Env.sub_cons rfl (Env.sub_cons rfl (Env.sub_cons rfl (Env.sub_cons rfl (Env.sub_cons rfl (Env.sub_cons rfl (Env.sub_nil _))))))) ?_
        have hge := hI.he ge rfl
        clear hI hpv hst hwk
        rintro j wl ⟨hj, hwk, hL, hF, h4, hpv, hst, kt⟩
        refine W.seq ?_
        -- region 28 (store.go:211)
        refine W.region ?_
        refine Run.ev (Ev.lss rfl rfl rfl) rfl rfl ?_   -- t145
        refine Run.nil ?_
        refine At.then ?_
        refine W.seq ?_
        refine W.cond rfl (fun hc145 => ?_) (fun hc145 => ?_)
        · replace hc145 := of_decide_eq_true hc145
          obtain ⟨e, he⟩ : ∃ e, ev5[j]? = some e := ⟨_, List.getElem?_eq_getElem (by omega)⟩
          obtain ⟨cur, hcur, hev⟩ := ev_at hL.he he
          have heb := hevb e (List.mem_of_getElem? he)
          refine W.skip ?_
          refine At.then ?_
          refine W.seq ?_
          refine W.block ?_
          refine W.seq ?_
          -- region 29 (store.go:211)
          refine W.region ?_
          refine Run.ev (Ev.indexAddr Tryz.underlying55 es_118 rfl rfl (by omega) rfl) rfl rfl ?_   -- t146
          refine Run.ev (Ev.to (v' := .agg #[.int .i64 e.1, str e.2]) rfl (Ev.loadA (vs := evV e) ag_118 rfl hcur (by rw [← hev]; congr 2; omega) rfl)) rfl rfl ?_   -- t147
          refine Run.step rfl (Stp.alloc zc_118 rfl ?_)   -- t16
          intro a16 w16 e16 k16 b16 z16
          replace hL := hL.kt0 k16
          replace hF := hF.kt0 k16
          replace h4 := k16.at0 h4
          replace hpv := hpv.kt0 k16
          replace hst := hst.kt0 k16
          replace kt := kt.no k16
          have lge := own_lt hL.he
          have s16 : ge ≠ a16 := by intro e; subst e; obtain ⟨cu, hcu⟩ := own_obj (v := .slice (some ⟨_, 0, none⟩) ev5.length ce) hL.he rfl; have := blk_lt hcur; omega
          refine Run.step rfl (Stp.storeA (vs := [.int .i64 e.1, str e.2]) ag_118 rfl rfl rfl (evV_one e) b16 (by simp) ?_)   -- tNone
          intro wD kD bD zD
          replace hL : LayR a27 free2 ev5 fv2 (.slice (some ⟨ge, 0, none⟩) ev5.length ce) wD := ⟨kD.at hL.hb (by intro e; subst e; have := hL.hb; rw [b16] at this; cases this), sl_kt hL.hf kD (by rintro i rfl; exact ⟨_, b16, by intro c f e; cases e⟩), kD.own hL.he (fun i hi e => by cases hi; exact s16 e)⟩
          replace hF := hF.kt kD (hF.1.ne_cells b16) (by rintro i rfl; exact ⟨_, b16, by intro c f e; cases e⟩)
          replace h4 := kD.at h4 (by intro e; subst e; rw [b16] at h4; cases h4)
          replace hpv := sl_kt hpv kD (by rintro i rfl; exact ⟨_, b16, by intro c f e; cases e⟩)
          replace hst := hst.kta kD b16 (fun i hi e => by have := helt i hi; omega)
          replace kt := kt.new kD (by rintro i rfl; omega)
          replace bD : wD.heap[a16]? = some (.cells #[.int .i64 e.1, str e.2] 118 (0, 0)) := bD
          refine Run.nil ?_
          refine At.then ?_
          refine W.seq ?_
          -- region 30 (store.go:212)
          refine W.region ?_
          refine Run.ev (Ev.fieldAddr fo_118_0 rfl rfl) rfl rfl ?_   -- t148
          refine Run.ev (Ev.load (v := .int .i64 e.1) sc_3 rfl (cell_of bD rfl)) rfl rfl ?_   -- t149
          refine Run.ev (Ev.geq (m := e.1) (n := 0) rfl rfl rfl) rfl rfl ?_   -- t150
          refine Run.nil ?_
          refine At.then ?_
          refine W.cond rfl (fun hc150 => ?_) (fun hc150 => ?_)
          · replace hc150 := of_decide_eq_true hc150
            obtain ⟨pgc, hpgc, hpgn, _, hpgs⟩ := own_row hst.q.hpg
            replace hpgc : wD.heap[t.pb]? = some (.cells pgc 9 (0, 0)) := hpgc
            have hpn : applyP t.pages (ev5.take (j + 1)) = (applyP t.pages (ev5.take j)).set e.1.toNat e.2 := by rw [take_snoc he, applyP_snoc, if_pos hc150]
            -- region 31 DRAWS (store.go:213)
            refine W.draw (fun w' => w'.heap[b]? = some (.cells (t.cells (.map (some t.mn))) 57 (0, 0)) ∧ w'.heap[a16]? = some (.cells #[.int .i64 e.1, str e.2] 118 (0, 0))) [(0, true), (1, true), (2, true), (3, true), (4, true), (5, true), (6, true), (7, true), (8, true), (9, false)] (by repeat (first | exact PQ.body | with_reducible apply PQ.then | with_reducible apply PQ.block)) (by kernel_rfl) (by kernel_rfl) (by kernel_rfl) rfl ?_
            have kd3 := (Kt.refl No wD).drew
            have hS0 : wD.drew.heap[b]? = some (.cells (t.cells (.map (some t.mn))) 57 (0, 0)) ∧ wD.drew.heap[a16]? = some (.cells #[.int .i64 e.1, str e.2] 118 (0, 0)) := ⟨hst.q.hb, bD⟩
            replace hL := hL.kt0 kd3
            replace hF := hF.kt0 kd3
            replace h4 := kd3.at0 h4
            replace hpv := hpv.kt0 kd3
            replace hpgc := kd3.at0 hpgc
            refine RunD.ev rfl (fun w' hS => (Ev.move rfl)) hS0 rfl rfl ?_   -- t151
            refine RunD.ev rfl (fun w' hS => (Ev.nilCheck rfl)) hS0 rfl rfl ?_   -- t152
            refine RunD.ev rfl (fun w' hS => (Ev.fieldAddr fo_57_1 rfl rfl)) hS0 rfl rfl ?_   -- t153
            refine RunD.ev rfl (fun w' hS => (Ev.load (v := .slice (some ⟨t.pb, 0, none⟩) 256 t.cap) sc_34 rfl (cell_of hS.1 rfl))) hS0 rfl rfl ?_   -- t154
            refine RunD.ev rfl (fun w' hS => (Ev.fieldAddr fo_118_0 rfl rfl)) hS0 rfl rfl ?_   -- t155
            refine RunD.ev rfl (fun w' hS => (Ev.load (v := .int .i64 e.1) sc_3 rfl (cell_of hS.2 rfl))) hS0 rfl rfl ?_   -- t156
            refine RunD.ev rfl (fun w' hS => (Ev.fieldAddr fo_118_1 rfl rfl)) hS0 rfl rfl ?_   -- t157
            refine RunD.ev rfl (fun w' hS => (Ev.load (v := str e.2) sc_9 rfl (cell_of hS.2 rfl))) hS0 rfl rfl ?_   -- t158
            refine RunD.ev rfl (fun w' hS => (Ev.indexAddr (j := e.1) (m := e.1.toNat) Tryz.underlying34 es_9 rfl rfl (by omega) (by omega))) hS0 rfl rfl ?_   -- t159
            refine RunD.step rfl rfl (Stp.store sc_9 sz_9 rfl rfl rfl hpgc (by omega) ?_)   -- tNone
            intro wE kE bE zE
            have hpgE : wE.ownsRow 0 9 1 t.pv 256 (((applyP t.pages (ev5.take j)).set e.1.toNat e.2).map str) := by
              rw [List.map_set]
              exact hpgs wE e.1.toNat (str e.2) (by omega) bE
            replace hS0 : _ ∧ _ := ⟨kE.at hS0.1 (by intro e; have := hS0.1; rw [e, hpgc] at this; cases this), kE.at hS0.2 (by omega)⟩
            refine ⟨hS0, ?_⟩
            refine RunD.nil ?_
            refine At.block ?_
            refine At.then ?_
            -- region 32 (store.go:211)
            refine W.region ?_
            refine Run.ev (Ev.add rfl rfl (by omega)) rfl rfl ?_   -- t160
            refine Run.ev (Ev.move rfl) rfl rfl ?_   -- t144
            refine Run.nil ?_
            refine At.round (j + 1) (Env.sub_cons rfl (Env.sub_cons rfl (Env.sub_cons rfl (Env.sub_cons rfl (Env.sub_cons rfl (Env.sub_cons rfl (Env.sub_nil _))))))) ⟨by omega, by have := kt.size; have := kE.size; have := kd3.size; omega, ⟨(kE.at hL.hb (by intro e; have := hL.hb; rw [e, hpgc] at this; cases this)), sl_kt hL.hf kE (by rintro i rfl; exact ⟨_, hpgc, by intro c f e; cases e⟩), kE.own hL.he (fun i hi e => own_ne hL.he hpgc (by intro c f e; cases e) (e ▸ hi))⟩, hF.kt kE (hF.1.ne_cells hpgc) (by rintro i rfl; exact ⟨_, hpgc, by intro c f e; cases e⟩), kE.at h4 (by intro e; rw [e, hpgc] at h4; cases h4), sl_kt hpv kE (by rintro i rfl; exact ⟨_, hpgc, by intro c f e; cases e⟩), ?_, (kt.no kd3).trans kE (fun i _ h => h)⟩ (by omega)
            rw [hpn]
            exact (hst.kt0 kd3).ktp kE hpgE
          · replace hc150 := of_decide_eq_false hc150
            have hpn : applyP t.pages (ev5.take (j + 1)) = applyP t.pages (ev5.take j) := by rw [take_snoc he, applyP_snoc, if_neg hc150]
            refine W.skip ?_
            refine At.block ?_
            refine At.then ?_
            -- region 32 (store.go:211)
            refine W.region ?_
            refine Run.ev (Ev.add rfl rfl (by omega)) rfl rfl ?_   -- t160
            refine Run.ev (Ev.move rfl) rfl rfl ?_   -- t144
            refine Run.nil ?_
            exact At.round (j + 1) (Env.sub_cons rfl (Env.sub_cons rfl (Env.sub_cons rfl (Env.sub_cons rfl (Env.sub_cons rfl (Env.sub_cons rfl (Env.sub_nil _))))))) ⟨by omega, kt.size, hL, hF, h4, hpv, by rw [hpn]; exact hst, kt⟩ (by omega)
        · replace hc145 := of_decide_eq_false hc145
          obtain rfl : j = ev5.length := by omega
          rw [List.take_length] at hst
          refine W.exit ?_
          refine At.then_exit ?_
          refine At.then_exit ?_
          refine At.block_here ?_
          refine At.then ?_
          refine W.seq ?_
          -- region 33 DRAWS (store.go:216)
          refine W.draw (fun w' => w'.heap[a27]? = some (.cells #[fv2, .slice (some ⟨ge, 0, none⟩) ev5.length ce] 105 (0, 0)) ∧ w'.heap[a4]? = some (.cells #[natv (t.g + 1), natv (pages.headD 0), natv dirB.length, natv (1 - t.k), .map (some a34), pv] 50 (0, 0))) [(0, true), (1, true), (2, true), (3, true), (4, true), (5, true), (6, true), (7, true), (8, true), (9, false), (10, true), (11, true), (12, false)] (by repeat (first | exact PQ.body | with_reducible apply PQ.then | with_reducible apply PQ.block)) (by kernel_rfl) (by kernel_rfl) (by kernel_rfl) rfl ?_
          have kd4 := (Kt.refl No wl).drew
          have hS0 : wl.drew.heap[a27]? = some (.cells #[fv2, .slice (some ⟨ge, 0, none⟩) ev5.length ce] 105 (0, 0)) ∧ wl.drew.heap[a4]? = some (.cells #[natv (t.g + 1), natv (pages.headD 0), natv dirB.length, natv (1 - t.k), .map (some a34), pv] 50 (0, 0)) := ⟨hL.hb, h4⟩
          refine RunD.ev rfl (fun w' hS => (Ev.move rfl)) hS0 rfl rfl ?_   -- t161
          refine RunD.ev rfl (fun w' hS => (Ev.move rfl)) hS0 rfl rfl ?_   -- t162
          refine RunD.ev rfl (fun w' hS => (Ev.to (v' := .agg #[natv (t.g + 1), natv (pages.headD 0), natv dirB.length, natv (1 - t.k), .map (some a34), pv]) rfl (Ev.loadA ag_50 rfl hS.2 rfl rfl))) hS0 rfl rfl ?_   -- t163
          refine RunD.ev rfl (fun w' hS => (Ev.move rfl)) hS0 rfl rfl ?_   -- t164
          refine RunD.ev rfl (fun w' hS => (Ev.nilCheck rfl)) hS0 rfl rfl ?_   -- t165
          refine RunD.ev rfl (fun w' hS => (Ev.fieldAddr fo_105_1 rfl rfl)) hS0 rfl rfl ?_   -- t166
          refine RunD.ev rfl (fun w' hS => (Ev.load (v := .slice (some ⟨ge, 0, none⟩) ev5.length ce) sc_55 rfl (cell_of hS.1 rfl))) hS0 rfl rfl ?_   -- t167
          refine RunD.ev rfl (fun w' hS => (Ev.nilCheck rfl)) hS0 rfl rfl ?_   -- t168
          refine RunD.ev rfl (fun w' hS => (Ev.fieldAddr fo_57_0 rfl rfl)) hS0 rfl rfl ?_   -- t169
          refine RunD.step rfl rfl (Stp.storeA (vs := [natv (t.g + 1), natv (pages.headD 0), natv dirB.length, natv (1 - t.k), .map (some a34), pv]) ag_50 rfl rfl rfl (st_one hpv) hst.q.hb (by simp [Sto.cells]) ?_)   -- tNone
          intro wF kF bF zF
          have nab : a27 ≠ b ∧ a4 ≠ b := by omega
          replace hS0 : _ ∧ _ := ⟨kF.at hS0.1 nab.1, kF.at hS0.2 nab.2⟩
          refine ⟨hS0, ?_⟩
          refine RunD.ev rfl (fun w' hS => (Ev.nilCheck rfl)) hS0 rfl rfl ?_   -- t170
          refine RunD.ev rfl (fun w' hS => (Ev.fieldAddr fo_57_3 rfl rfl)) hS0 rfl rfl ?_   -- t171
          refine RunD.step rfl rfl (Stp.store sc_55 sz_55 rfl rfl rfl bF (by simp [over_size, Sto.cells]) ?_)   -- tNone
          intro wH kH bH zH
          replace hS0 : _ ∧ _ := ⟨kH.at hS0.1 nab.1, kH.at hS0.2 nab.2⟩
          refine ⟨hS0, ?_⟩
          refine RunD.nil ?_
          refine At.then ?_
          refine W.seq ?_
          -- region 34 (store.go:217)
          refine W.region ?_
          refine Run.ev (Ev.assign rfl) rfl rfl ?_   -- t2
          refine Run.nil ?_
          refine At.then ?_
          refine W.ret ?_
          have kF2 : Kt (fun i => i = b) wl wH := ((kd4.mono (fun _ _ e => e.elim)).trans kF (fun i _ e => e)).trans kH (fun i _ e => e)
          have hS2 : ∀ (T : TypeId), T ≠ 57 → ∀ i, i = b → ∃ o, wl.heap[i]? = some o ∧ ∀ c f, o ≠ .cells c T f := fun T hT => by rintro i rfl; exact ⟨_, hst.q.hb, by intro c f e; cases e; exact hT rfl⟩
          refine At.ret1 rfl rfl rfl (.inr ⟨_, nfs, a34, pv, .slice (some ⟨ge, 0, none⟩) ev5.length ce, rfl, hcom, rfl, hlow.2.1, ⟨⟨bH, hF.kt kF2 (hF.1.ne_cells hst.q.hb) (hS2 3 (by decide)), sl_kt hpv kF2 (hS2 3 (by decide)), kF2.own hst.q.hpg (fun k hk' e => own_ne hst.q.hpg hst.q.hb (by intro c f e; cases e) (e ▸ hk')), kF2.own hL.he (fun k hk' e => own_ne hL.he hst.q.hb (by intro c f e; cases e) (e ▸ hk'))⟩, hst.hmn.kt kF2 (hst.hmn.ne_cells hst.q.hb), by show a34 ≠ t.mn; omega⟩, (kt.mono (fun i _ h => .inr h)).trans kF2 (fun i _ h => .inl h)⟩)

end Go.Proofs.YtlcgeepjekcfgaaGreat
