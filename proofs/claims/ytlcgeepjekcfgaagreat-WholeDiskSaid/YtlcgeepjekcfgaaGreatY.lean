/- A commit that is being prepared: chains, events. -/
import Derived.Test.YtlcgeepjekcfgaaGreatDr
namespace Go.Proofs.YtlcgeepjekcfgaaGreat
open Go.RowKit
set_option linter.unusedVariables false
set_option linter.unusedSimpArgs false


theorem own_obj {w : World} {base e sz n k : Nat} {v : Value} {xs : List Value} (h : w.ownsRow base e sz v n xs) (hk : v.ownBlock = some k) : ∃ c, w.heap[k]? = some (.cells c e (0, 0)) := by
  rcases h.2 with ⟨rfl, _⟩ | ⟨g, cap, cur, rfl, _, hg, _⟩
  · cases hk
  · cases hk; exact ⟨_, hg⟩
theorem clone73_calls (p : Option Addr) (cap n : Nat) (l : List Nat) (w : World) (h : Sl w 3 1 (.slice p n cap) n (l.map natv)) (hn : n ≤ 1000000) : Calls P 73 [.slice p n cap].toArray w (Ret fun v w' => w'.ownsRow 0 3 1 v n (l.map natv) ∧ Kt No w w' ∧ ∀ k, v.ownBlock = some k → w.heap.size ≤ k) := by
  have hz : ∀ v : Value, n = 0 → ∀ w' : World, w'.ownsRow w.heap.size 3 1 v 0 [] → w'.ownsRow 0 3 1 v n (l.map natv) ∧ ∀ k, v.ownBlock = some k → w.heap.size ≤ k := by
    rintro v rfl w' ho
    have hl : l.map natv = [] := List.eq_nil_of_length_eq_zero (by simpa using h.1)
    rw [hl]
    refine ⟨⟨ho.1, ?_⟩, fun k hk => ?_⟩
    · rcases ho.2 with h0 | ⟨g, cap, cur, h1, h2, h3⟩
      · exact .inl h0
      · exact .inr ⟨g, cap, cur, h1, Nat.zero_le _, h3⟩
    · rcases ho.2 with ⟨rfl, _⟩ | ⟨g, cap, cur, rfl, h2, h3⟩
      · cases hk
      · cases hk; exact h2
  cases p with
  | none =>
    have h0 : n = 0 := by
      obtain ⟨_, p', c', hv, _, _, h4⟩ := h
      cases hv
      rcases h4 with h4 | ⟨b, o, _, _, hp, _⟩
      · exact h4
      · cases hp
    refine Calls.mono (Tryz.slices_Clone_nil_f73 n cap w) ?_
    rintro e w' ⟨rfl, rfl⟩
    obtain ⟨h1, h2⟩ := hz (.slice none 0 0) h0 w' ⟨by simp, .inl ⟨rfl, rfl⟩⟩
    exact ⟨h1, Kt.refl _ _, h2⟩
  | some a =>
    by_cases h0 : n = 0
    · subst h0
      refine Calls.mono (Tryz.slices_Clone_int_zero a cap w) ?_
      rintro e w' ⟨v', rfl, ho, _, hb⟩
      obtain ⟨h1, h2⟩ := hz v' rfl w' ho
      exact ⟨h1, Kt.of_below hb, h2⟩
    · obtain ⟨b, off, hp⟩ := h.ptr (by omega)
      cases hp
      obtain ⟨i, h1, h2, h3, h4⟩ := einf_spec ei_3
      refine Calls.mono (Tryz.slices_Clone_f73 i (.int .i64 0) 1 8 h1 h2 h3 h4 rfl (by omega) (fun w => by simp [sizeOf, typeInfo, h1, h3]) b off n cap (l.map natv) w h.1 (by rw [maxLen_le]; omega) (by omega) (fun j u hu => h.cell1 hu rfl) ?_) ?_
      · intro u hu
        rw [List.mem_map] at hu
        obtain ⟨s, _, rfl⟩ := hu; rfl
      · rintro e w' ⟨v', rfl, ho, _, hb⟩
        refine ⟨⟨ho.1, ?_⟩, Kt.of_below hb, fun k hk => ?_⟩
        · rcases ho.2 with h0 | ⟨g, c, cur, e1, e2, e3⟩
          · exact .inl h0
          · exact .inr ⟨g, c, cur, e1, Nat.zero_le _, e3⟩
        · rcases ho.2 with ⟨rfl, _⟩ | ⟨g, c, cur, rfl, e2, e3⟩
          · cases hk
          · cases hk; exact e2

/-- The events that write a chain. -/
def linksP : List Nat → List Bs → List EvP
  | k :: ks, p :: ps => ((k : Int), linkP (ks.headD 0) p) :: linksP ks ps
  | _, _ => []
theorem linksP_len : ∀ (ks : List Nat) (ps : List Bs), ks.length = ps.length → (linksP ks ps).length = ks.length
  | [], [], _ => rfl
  | k :: ks, p :: ps, h => by simp [linksP, linksP_len ks ps (by simpa using h)]
theorem linksP_get : ∀ (ks : List Nat) (ps : List Bs) (j : Nat) (k : Nat) (p : Bs), ks[j]? = some k → ps[j]? = some p → (linksP ks ps)[j]? = some ((k : Int), linkP (ks.getD (j + 1) 0) p)
  | k :: ks, p :: ps, 0, _, _, h1, h2 => by
    simp at h1 h2; subst h1; subst h2
    simp [linksP]
    congr 1
    cases ks <;> rfl
  | k :: ks, p :: ps, j + 1, k', p', h1, h2 => by
    simp at h1 h2
    simp [linksP]
    simpa using linksP_get ks ps j k' p' h1 h2
  | [], _, j, _, _, h1, _ => by simp at h1
  | _ :: _, [], j, _, _, _, h2 => by simp at h2
/-- A chain of the free pages. -/
def chainW (free : List Nat) (data : Bs) : Option (List Nat × List Nat × List EvP) :=
  if free.length < (piecesP data).length then none
  else some (free.take (piecesP data).length, free.drop (piecesP data).length, linksP (free.take (piecesP data).length) (piecesP data))
theorem piecesP_57 (data : Bs) : ∀ p ∈ piecesP data, p.length ≤ 57 := by
  induction hn : data.length using Nat.strongRecOn generalizing data with
  | _ n ih =>
    intro p hp
    rw [piecesP] at hp
    split at hp
    · rename_i h
      rcases List.mem_cons.1 hp with rfl | hp
      · rw [List.length_take]; omega
      · exact ih (data.drop 57).length (by simp; omega) _ rfl p hp
    · split at hp
      · cases hp
      · simp at hp; subst hp; omega
structure LayR (lb : Nat) (free : List Nat) (ev : List EvP) (fv evv : Value) (w : World) : Prop where
  hb : w.heap[lb]? = some (.cells #[fv, evv] 105 (0, 0))
  hf : Sl w 3 1 fv free.length (free.map natv)
  he : w.ownsRow 0 118 2 evv ev.length (evsV ev)
theorem LayR.kt {lb : Nat} {free : List Nat} {ev : List EvP} {fv evv : Value} {w w' : World} {S : Nat → Prop} (h : LayR lb free ev fv evv w) (hk : Kt S w w') (h1 : ¬ S lb) (hS : ∀ i, S i → ∃ o, w.heap[i]? = some o ∧ (∀ c f, o ≠ .cells c 3 f) ∧ ∀ c f, o ≠ .cells c 118 f) : LayR lb free ev fv evv w' :=
  ⟨hk.at h.hb h1, sl_kt h.hf hk (fun b hb => by obtain ⟨o, a, b, _⟩ := hS b hb; exact ⟨o, a, b⟩), hk.own h.he (fun k hk' hs => by obtain ⟨o, a, _, c⟩ := hS k hs; exact own_ne h.he a c hk')⟩
theorem LayR.kt0 {lb : Nat} {free : List Nat} {ev : List EvP} {fv evv : Value} {w w' : World} (h : LayR lb free ev fv evv w) (hk : Kt No w w') : LayR lb free ev fv evv w' := h.kt hk id (fun _ h => h.elim)
theorem evs_snoc (l : List EvP) (e : EvP) : evsV (l ++ [e]) = evsV l ++ evV e := by simp [evsV]
theorem evs_len (l : List EvP) : (evsV l).length = l.length * 2 := by
  induction l with
  | nil => rfl
  | cons e r ih =>
    have : evsV (e :: r) = evV e ++ evsV r := by simp [evsV]
    rw [this, List.length_append, ih]; simp [evV]; omega
theorem evV_one (e : EvP) : ∀ u ∈ (Value.agg #[.int .i64 e.1, str e.2]).cells.toList, u.oneCell' = true := by
  intro u hu
  simp [Value.cells] at hu
  rcases hu with rfl | rfl <;> rfl
theorem evV_cells (e : EvP) : (Value.agg #[.int .i64 e.1, str e.2]).cells.toList = evV e := rfl
def LayS (lb : Nat) (evv : Value) : Nat → Prop := fun i => i = lb ∨ evv.ownBlock = some i

theorem safe_calls (lb : Nat) (free : List Nat) (ev : List EvP) (fv evv : Value) (w : World) (h : LayR lb free ev fv evv w) (hl : ev.length ≤ 1000000) : Calls P 56 [.pointer (some ⟨lb, 0, none⟩)].toArray w (Ret fun v w' => ∃ evv', LayR lb free (ev ++ [(-1, [])]) fv evv' w' ∧ Kt (LayS lb evv) w w' ∧ ∀ k, evv'.ownBlock = some k → evv.ownBlock = some k ∨ w.heap.size ≤ k) := by
  refine enterW 12 Tryz.func56 rfl rfl rfl ?_
  -- region 0 (store.go:179)
  refine W.region ?_
  refine Run.ev (Ev.move rfl) rfl rfl ?_   -- t2
  refine Run.ev (Ev.move rfl) rfl rfl ?_   -- t3
  refine Run.ev (Ev.nilCheck rfl) rfl rfl ?_   -- t4
  refine Run.ev (Ev.fieldAddr fo_105_1 rfl rfl) rfl rfl ?_   -- t5
  refine Run.ev (Ev.load sc_55 rfl (cell_of h.hb rfl)) rfl rfl ?_   -- t6
  refine Run.ev (Ev.build (vs := [(0, .int .i64 (-1))]) (v := .agg #[.int .i64 (-1), str []]) rfl rfl (by kernel_rfl)) rfl rfl ?_   -- t7
  refine Run.step rfl (Stp.bslice1 Tryz.underlying55 ei_118 rfl (by decide) (by decide) rfl rfl rfl ?_)   -- t8
  intro a8 w8 e8 k8 b8 z8
  replace h := h.kt0 k8
  refine Run.step rfl (Stp.append (n := ev.length) (m := 1) Tryz.underlying55 ei_118 rfl (by decide) rfl rfl h.he b8 (evV_one (-1, [])) (by omega) (by omega) rfl ?_)   -- t9
  intro v9 w9 o9 k9 n9
  have hnb : ¬ evv.ownBlock = some lb := own_ne h.he h.hb (by intro c f e; cases e)
  have hb9 := k9.at h.hb hnb
  have hf9 := sl_kt h.hf k9 (fun b hb => by obtain ⟨c, hc⟩ := own_obj h.he hb; exact ⟨_, hc, by intro c f e; cases e⟩)
  refine Run.ev (Ev.nilCheck rfl) rfl rfl ?_   -- t10
  refine Run.ev (Ev.fieldAddr fo_105_1 rfl rfl) rfl rfl ?_   -- t11
  refine Run.step rfl (Stp.store sc_55 sz_55 rfl rfl (own_one o9) hb9 (by simp) ?_)   -- tNone
  intro wS kS bS zS
  refine Run.nil ?_
  refine At.end0 rfl rfl ⟨v9, ⟨bS, sl_kt hf9 kS (by rintro b rfl; exact ⟨_, hb9, by intro c f e; cases e⟩), ?_⟩, ?_, fun k hk => (n9 k hk).imp id (fun hh => Nat.le_trans k8.size hh)⟩
  · have o9b : w9.ownsRow 0 118 2 v9 (ev.length + 1) (evsV (ev ++ [(-1, [])])) := by rw [evs_snoc]; exact o9
    have := kS.own o9b (fun k hk e => own_ne o9b hb9 (by intro c f e; cases e) (e ▸ hk))
    simpa using this
  · exact ((k8.mono (fun _ _ e => e.elim)).trans k9 (fun i _ h => .inr h)).trans kS (fun i _ h => .inl h)

theorem lchain_calls (lb : Nat) (free : List Nat) (ev : List EvP) (fv evv : Value) (data : Bs) (w : World) (h : LayR lb free ev fv evv w) (hl : ev.length ≤ 1000000) (hfl : ∀ k ∈ free, k < 256) (hfn : free.length ≤ 256) (hd : data.length ≤ 1000000) : Calls P 51 [.pointer (some ⟨lb, 0, none⟩), str data].toArray w (Ret fun v w' => ∃ fv' evv' pv free' evs pages ok, v = .tuple #[pv, .bool ok] ∧ (if ok then chainW free data = some (pages, free', evs) else chainW free data = none ∧ pages = [] ∧ free' = free ∧ evs = []) ∧ LayR lb free' (ev ++ evs) fv' evv' w' ∧ Sl w' 3 1 pv pages.length (pages.map natv) ∧ Kt (LayS lb evv) w w' ∧ ∀ k, evv'.ownBlock = some k → evv.ownBlock = some k ∨ w.heap.size ≤ k) := by
  refine enterW 75 Tryz.func51 rfl rfl rfl ?_
  refine W.seq ?_
  -- region 0 (store.go:161)
  refine W.region ?_
  refine Run.ev (Ev.assign rfl) rfl rfl ?_   -- t4
  refine Run.ev (Ev.assign rfl) rfl rfl ?_   -- t5
  refine Run.nil ?_
  refine At.then ?_
  refine W.seq ?_
  -- region 1 (store.go:162)
  refine W.region ?_
  refine Run.ev (Ev.move rfl) rfl rfl ?_   -- t11
  refine Run.step rfl (Stp.callr en_72 rfl (pieces_calls data w hd) rfl ?_)   -- t12
  rintro v12 w12 ⟨o12, k12, f12⟩
  have h0 := h
  replace h := h.kt0 k12
  obtain ⟨pp, pc, rfl, hpc1, hpc2⟩ := (Sl.of_own o12).len
  obtain ⟨pf, cf, rfl, hcf1, hcf2⟩ := h.hf.len
  have hml := maxLen_le
  refine Run.ev (Ev.assign rfl) rfl rfl ?_   -- t6
  refine Run.nil ?_
  refine At.then ?_
  refine W.seq ?_
  refine W.seq ?_
  -- region 2 (store.go:163)
  refine W.region ?_
  refine Run.ev (Ev.move rfl) rfl rfl ?_   -- t13
  refine Run.ev (Ev.len rfl Tryz.underlying34) rfl rfl ?_   -- t14
  refine Run.ev (Ev.move rfl) rfl rfl ?_   -- t15
  refine Run.ev (Ev.nilCheck rfl) rfl rfl ?_   -- t16
  refine Run.ev (Ev.fieldAddr fo_105_0 rfl rfl) rfl rfl ?_   -- t17
  refine Run.ev (Ev.load sc_48 rfl (cell_of h.hb rfl)) rfl rfl ?_   -- t18
  refine Run.ev (Ev.len rfl Tryz.underlying48) rfl rfl ?_   -- t19
  refine Run.ev (Ev.gtr (m := ((piecesP data).length : Int)) (n := (free.length : Int)) rfl rfl rfl) rfl rfl ?_   -- t20
  refine Run.nil ?_
  refine At.then ?_
  refine W.cond rfl (fun hc20 => ?_) (fun hc20 => ?_)
  · replace hc20 := of_decide_eq_true hc20
    have hn : chainW free data = none := by rw [chainW, if_pos (by omega)]
    refine W.seq ?_
    -- region 3 (store.go:164)
    refine W.region ?_
    refine Run.ev (Ev.assign rfl) rfl rfl ?_   -- t4
    refine Run.ev (Ev.assign rfl) rfl rfl ?_   -- t5
    refine Run.nil ?_
    refine At.then ?_
    refine W.ret ?_
    refine At.then_ret ?_
    exact At.ret2 rfl rfl rfl rfl ⟨_, _, .slice none 0 0, free, [], [], false, rfl, ⟨hn, rfl, rfl, rfl⟩, by simpa using h, ⟨by simp, _, _, rfl, Nat.le_refl _, Nat.zero_le _, .inl rfl⟩, k12.mono (fun _ _ e => e.elim), fun k hk => .inl hk⟩
  · replace hc20 := of_decide_eq_false hc20
    have hle : (piecesP data).length ≤ free.length := by omega
    have hsm : chainW free data = some (free.take (piecesP data).length, free.drop (piecesP data).length, linksP (free.take (piecesP data).length) (piecesP data)) := by rw [chainW, if_neg (by omega)]
    refine W.skip ?_
    refine At.then ?_
    refine W.seq ?_
    -- region 4 (store.go:166)
    refine W.region ?_
    refine Run.ev (Ev.move rfl) rfl rfl ?_   -- t21
    refine Run.ev (Ev.nilCheck rfl) rfl rfl ?_   -- t22
    refine Run.ev (Ev.fieldAddr fo_105_0 rfl rfl) rfl rfl ?_   -- t23
    refine Run.ev (Ev.load sc_48 rfl (cell_of h.hb rfl)) rfl rfl ?_   -- t24
    refine Run.ev (Ev.move rfl) rfl rfl ?_   -- t25
    refine Run.ev (Ev.len rfl Tryz.underlying34) rfl rfl ?_   -- t26
    refine Run.ev (Ev.cut (l := 0) (m := (piecesP data).length) Tryz.underlying48 es_3 rfl (.inl ⟨rfl, rfl⟩) (.inr ⟨_, rfl, rfl⟩) (by omega) (by omega) (by omega)) rfl rfl ?_   -- t27
    refine Run.step rfl (Stp.callr en_73 rfl (clone73_calls _ _ (piecesP data).length (free.take (piecesP data).length) w12 (by have := h.hf.cut 0 (piecesP data).length (by omega) hle; simpa [sliced, List.map_take] using this) (by omega)) rfl ?_)   -- t28
    rintro v28 w28 ⟨o28, k28, f28⟩
    have h2 := h.kt0 k28
    replace o12 := k28.own0 o12
    refine Run.ev (Ev.assign rfl) rfl rfl ?_   -- t7
    refine Run.nil ?_
    refine At.then ?_
    refine W.seq ?_
    -- region 5 (store.go:167)
    refine W.region ?_
    refine Run.ev (Ev.move rfl) rfl rfl ?_   -- t29
    refine Run.ev (Ev.move rfl) rfl rfl ?_   -- t30
    refine Run.ev (Ev.nilCheck rfl) rfl rfl ?_   -- t31
    refine Run.ev (Ev.fieldAddr fo_105_0 rfl rfl) rfl rfl ?_   -- t32
    refine Run.ev (Ev.load sc_48 rfl (cell_of h2.hb rfl)) rfl rfl ?_   -- t33
    refine Run.ev (Ev.move rfl) rfl rfl ?_   -- t34
    refine Run.ev (Ev.len rfl Tryz.underlying34) rfl rfl ?_   -- t35
    refine Run.ev (Ev.cut (l := (piecesP data).length) (m := free.length) Tryz.underlying48 es_3 rfl (.inr ⟨_, rfl, rfl⟩) (.inl ⟨rfl, rfl⟩) (by omega) (by omega) (by omega)) rfl rfl ?_   -- t36
    refine Run.ev (Ev.nilCheck rfl) rfl rfl ?_   -- t37
    refine Run.ev (Ev.fieldAddr fo_105_0 rfl rfl) rfl rfl ?_   -- t38
    refine Run.step rfl (Stp.store sc_48 sz_48 rfl rfl rfl h2.hb (by simp) ?_)   -- tNone
    intro wS kS bS zS
    have hfS := sl_kt (h2.hf.cut (piecesP data).length free.length hle (Nat.le_refl _)) kS (by rintro b rfl; exact ⟨_, h2.hb, by intro c f e; cases e⟩)
    have ho12 := kS.own o12 (fun k hk e => own_ne o12 h2.hb (by intro c f e; cases e) (e ▸ hk))
    have ho28 := kS.own o28 (fun k hk e => own_ne o28 h2.hb (by intro c f e; cases e) (e ▸ hk))
    have heS := kS.own h2.he (fun k hk e => own_ne h2.he h2.hb (by intro c f e; cases e) (e ▸ hk))
    obtain ⟨fv2, hfv2⟩ : ∃ fv2, fv2 = sliced pf (piecesP data).length free.length cf 1 := ⟨_, rfl⟩
    have hL0 : LayR lb (free.drop (piecesP data).length) ev fv2 evv wS := ⟨by rw [hfv2]; exact bS, by rw [hfv2]; have := hfS; rw [List.take_of_length_le (by simp)] at this; simpa [List.map_drop] using this, heS⟩
    have kt : Kt (LayS lb evv) w wS := (((k12.no k28).mono (fun _ _ e => e.elim)).trans kS (fun i _ e => .inl e))
    have hpl : (free.take (piecesP data).length).length = (piecesP data).length := by rw [List.length_take]; omega
    have hll := linksP_len _ _ hpl
    obtain ⟨pg, cg, rfl, hcg1, hcg2⟩ := (Sl.of_own ho28).len
    have hpn : (piecesP data).length ≤ 256 := by omega
    refine Run.nil ?_
    refine At.then ?_
    refine W.seq ?_
    refine W.seq ?_
    -- region 6 (store.go:168)
    refine W.region ?_
    refine Run.ev (Ev.move rfl) rfl rfl ?_   -- t39
    refine Run.ev (Ev.len rfl Tryz.underlying34) rfl rfl ?_   -- t40
    refine Run.ev (Ev.move rfl) rfl rfl ?_   -- t41
    refine Run.nil ?_
    refine At.then ?_
    refine W.block ?_
    refine W.loop (fun (x : Nat × Value) => [(0, .pointer (some ⟨lb, 0, none⟩)), (7, .slice pg (piecesP data).length cg), (39, .slice pp (piecesP data).length pc), (40, natv (piecesP data).length), (41, natv x.1)])
      (fun x w' => x.1 ≤ (piecesP data).length ∧ LayR lb (free.drop (piecesP data).length) (ev ++ (linksP (free.take (piecesP data).length) (piecesP data)).take x.1) fv2 x.2 w' ∧ Sl w' 9 1 (.slice pp (piecesP data).length pc) (piecesP data).length ((piecesP data).map str) ∧ Sl w' 3 1 (.slice pg (piecesP data).length cg) (piecesP data).length ((free.take (piecesP data).length).map natv) ∧ Kt (LayS lb evv) w w' ∧ ∀ k, x.2.ownBlock = some k → evv.ownBlock = some k ∨ w.heap.size ≤ k)
      (fun x => (piecesP data).length - x.1) (0, evv) ⟨Nat.zero_le _, by simpa using hL0, Sl.of_own ho12, Sl.of_own ho28, kt, fun k hk => .inl hk⟩ (Env.sub_cons rfl (Env.sub_cons rfl (Env.sub_cons rfl (Env.sub_cons rfl (Env.sub_cons rfl (Env.sub_nil _)))))) ?_
    clear hL0 kt ho12 ho28 heS hfS
    rintro ⟨j, x⟩ w1 ⟨hj, hL, hpp, hpg, kt, hx⟩
    dsimp only at hj hL hx
    show W _ _ _ [(0, .pointer (some ⟨lb, 0, none⟩)), (7, .slice pg (piecesP data).length cg), (39, .slice pp (piecesP data).length pc), (40, natv (piecesP data).length), (41, natv j)] w1
    refine W.seq ?_
    -- region 7 (store.go:168)
    refine W.region ?_
    refine Run.ev (Ev.lss rfl rfl rfl) rfl rfl ?_   -- t42
    refine Run.nil ?_
    refine At.then ?_
    refine W.seq ?_
    refine W.cond rfl (fun hc42 => ?_) (fun hc42 => ?_)
    · replace hc42 := of_decide_eq_true hc42
      obtain ⟨s, hs⟩ : ∃ s, (piecesP data)[j]? = some s := ⟨_, List.getElem?_eq_getElem (by omega)⟩
      obtain ⟨k, hk⟩ : ∃ k, (free.take (piecesP data).length)[j]? = some k := ⟨_, List.getElem?_eq_getElem (by omega)⟩
      obtain ⟨b1, o1, rfl⟩ := hpp.ptr (by omega)
      obtain ⟨b2, o2, rfl⟩ := hpg.ptr (by omega)
      have hcell := hpp.cell1 (j := j) (u := str s) (by simp [hs]) (m := o1 + ((j : Nat) : Int).toNat * 1) (by omega)
      have hs57 := piecesP_57 data s (List.mem_of_getElem? hs)
      have hg := linksP_get _ _ j k s hk hs
      refine W.skip ?_
      refine At.then ?_
      refine W.seq ?_
      refine W.block ?_
      refine W.seq ?_
      -- region 8 (store.go:168)
      refine W.region ?_
      refine Run.ev (Ev.move rfl) rfl rfl ?_   -- t43
      refine Run.ev (Ev.indexAddr Tryz.underlying34 es_9 rfl rfl (by omega) rfl) rfl rfl ?_   -- t44
      refine Run.ev (Ev.load sc_9 rfl hcell) rfl rfl ?_   -- t45
      refine Run.ev (Ev.assign rfl) rfl rfl ?_   -- t8
      refine Run.ev (Ev.assign rfl) rfl rfl ?_   -- t9
      refine Run.nil ?_
      refine At.then ?_
      refine W.seq ?_
      -- region 9 (store.go:169)
      refine W.region ?_
      refine Run.ev (Ev.assign rfl) rfl rfl ?_   -- t10
      refine Run.nil ?_
      refine At.then ?_
      refine W.seq ?_
      refine W.seq ?_
      -- region 10 (store.go:170)
      refine W.region ?_
      refine Run.ev (Ev.move rfl) rfl rfl ?_   -- t46
      refine Run.ev (Ev.add rfl rfl (by omega)) rfl rfl ?_   -- t47
      refine Run.ev (Ev.move rfl) rfl rfl ?_   -- t48
      refine Run.ev (Ev.len rfl Tryz.underlying48) rfl rfl ?_   -- t49
      refine Run.ev (Ev.lss (m := ((j + 1 : Nat) : Int)) rfl rfl rfl) rfl rfl ?_   -- t50
      refine Run.nil ?_
      refine At.then ?_
      refine W.cond rfl (fun hc50 => ?_) (fun hc50 => ?_)
      · replace hc50 := of_decide_eq_true hc50
        obtain ⟨k2, hk2⟩ : ∃ k2, (free.take (piecesP data).length)[j + 1]? = some k2 := ⟨_, List.getElem?_eq_getElem (by omega)⟩
        have hcell2 := hpg.cell1 (j := j + 1) (u := natv k2) (by rw [List.getElem?_map, hk2]; rfl) (m := o2 + ((j + 1 : Nat) : Int).toNat * 1) (by omega)
        have hnx : natv k2 = natv ((free.take (piecesP data).length).getD (j + 1) 0) := by rw [List.getD_eq_getElem?_getD, hk2]; rfl
        -- region 11 (store.go:171)
        refine W.region ?_
        refine Run.ev (Ev.move rfl) rfl rfl ?_   -- t51
        refine Run.ev (Ev.move rfl) rfl rfl ?_   -- t52
        refine Run.ev (Ev.add rfl rfl (by omega)) rfl rfl ?_   -- t53
        refine Run.ev (Ev.indexAddr (j := ((j + 1 : Nat) : Int)) Tryz.underlying48 es_3 rfl rfl (by omega) rfl) rfl rfl ?_   -- t54
        refine Run.ev (Ev.load sc_3 rfl hcell2) rfl rfl ?_   -- t55
        refine Run.ev (Ev.assign rfl) rfl rfl ?_   -- t10
        refine Run.nil ?_
        refine At.then ?_
        -- region 12 DRAWS (store.go:173)
        refine W.drawG (fun w' => w'.heap[lb]? = some (.cells #[fv2, x] 105 (0, 0)) ∧ Sl w' 3 1 (.slice (some ⟨b2, o2, none⟩) (piecesP data).length cg) (piecesP data).length ((free.take (piecesP data).length).map natv)) (fun j => Nat.beq j 17) [(0, true), (1, true), (2, true), (3, true), (4, true), (5, true), (6, true), (7, true), (8, true), (9, true), (10, true), (11, false), (12, true), (13, false), (14, false), (15, true), (16, true), (17, false)] (by repeat (first | exact PQ.body | with_reducible apply PQ.then | with_reducible apply PQ.block)) (by kernel_rfl) (by kernel_rfl) (by kernel_rfl) rfl ?_
        have kd := (Kt.refl No w1).drew
        have hS0 : w1.drew.heap[lb]? = some (.cells #[fv2, x] 105 (0, 0)) ∧ Sl w1.drew 3 1 (.slice (some ⟨b2, o2, none⟩) (piecesP data).length cg) (piecesP data).length ((free.take (piecesP data).length).map natv) := ⟨hL.hb, hpg.kt0 kd⟩
        have hLd := hL.kt0 kd
        have hppd := hpp.kt0 kd
        have ktd := kt.no kd
        have hkk : ∀ i : Nat, (free.take (piecesP data).length).getD i 0 < 256 := fun i => by
          rw [List.getD_eq_getElem?_getD]
          cases hq : (free.take (piecesP data).length)[i]? with
          | none => decide
          | some q => exact hfl q (List.mem_of_mem_take (List.mem_of_getElem? hq))
        refine RunG.pure rfl rfl (fun w' => (Ev.move rfl)) (fun _ => hS0) rfl rfl ?_   -- t56
        refine RunG.pure rfl rfl (fun w' => (Ev.move rfl)) (fun _ => hS0) rfl rfl ?_   -- t57
        refine RunG.pure rfl rfl (fun w' => (Ev.nilCheck rfl)) (fun _ => hS0) rfl rfl ?_   -- t58
        refine RunG.pure rfl rfl (fun w' => (Ev.fieldAddr fo_105_1 rfl rfl)) (fun _ => hS0) rfl rfl ?_   -- t59
        refine RunG.ev rfl rfl (by kernel_rfl) (fun w' hS => (Ev.load sc_55 rfl (cell_of hS.1 rfl))) hS0 rfl rfl ?_   -- t60
        refine RunG.pure rfl rfl (fun w' => (Ev.move rfl)) (fun _ => hS0) rfl rfl ?_   -- t61
        refine RunG.pure rfl rfl (fun w' => (Ev.move rfl)) (fun _ => hS0) rfl rfl ?_   -- t62
        refine RunG.pure rfl rfl (fun w' => (Ev.indexAddr Tryz.underlying48 es_3 rfl rfl (by omega) rfl)) (fun _ => hS0) rfl rfl ?_   -- t63
        refine RunG.ev rfl rfl (by kernel_rfl) (fun w' hS => (Ev.load sc_3 rfl (hS.2.cell1 (j := j) (u := natv k) (by rw [List.getElem?_map, hk]; rfl) (by omega)))) hS0 rfl rfl ?_   -- t64
        refine RunG.pure rfl rfl (fun w' => (Ev.to hnx (Ev.move rfl))) (fun _ => hS0) rfl rfl ?_   -- t65
        refine RunG.pure rfl rfl (fun w' => (Ev.move rfl)) (fun _ => hS0) rfl rfl ?_   -- t66
        refine RunG.step rfl rfl (Stp.callr en_74 rfl (link_calls ((free.take (piecesP data).length).getD (j + 1) 0) s _ (by have := hkk (j + 1); omega) hs57) rfl ?_)   -- t67
        rintro v67 w67 ⟨rfl, k67⟩
        replace hLd := hLd.kt0 k67
        replace hppd := hppd.kt0 k67
        replace ktd := ktd.no k67
        replace hS0 : _ ∧ _ := ⟨hLd.hb, hS0.2.kt0 k67⟩
        refine ⟨fun _ => hS0, ?_⟩
        refine RunG.pure rfl rfl (fun w' => (Ev.build (vs := [(0, natv k), (1, str (linkP ((free.take (piecesP data).length).getD (j + 1) 0) s))]) (v := .agg #[natv k, str (linkP ((free.take (piecesP data).length).getD (j + 1) 0) s)]) rfl rfl (by kernel_rfl))) (fun _ => hS0) rfl rfl ?_   -- t68
        refine RunG.step rfl rfl (Stp.bslice1 Tryz.underlying55 ei_118 rfl (by decide) (by decide) rfl rfl rfl ?_)   -- t69
        intro a69 w69 e69 k69 b69 z69
        replace hLd := hLd.kt0 k69
        replace hppd := hppd.kt0 k69
        replace ktd := ktd.no k69
        replace hS0 : _ ∧ _ := ⟨hLd.hb, hS0.2.kt0 k69⟩
        refine ⟨fun _ => hS0, ?_⟩
        refine RunG.step rfl rfl (Stp.append (n := (ev ++ (linksP (free.take (piecesP data).length) (piecesP data)).take j).length) (m := 1) Tryz.underlying55 ei_118 rfl (by decide) rfl rfl hLd.he b69 (evV_one ((k : Int), linkP ((free.take (piecesP data).length).getD (j + 1) 0) s)) (by rw [List.length_append, List.length_take]; omega) (by rw [List.length_append, List.length_take]; omega) rfl ?_)   -- t70
        intro v70 w70 o70 k70 n70
        have hnb : ¬ x.ownBlock = some lb := own_ne hLd.he hLd.hb (by intro c f e; cases e)
        have hS70 : ∀ b, x.ownBlock = some b → ∃ o, w69.heap[b]? = some o ∧ ∀ c f, o ≠ .cells c 3 f := fun b hb => by obtain ⟨c, hc⟩ := own_obj hLd.he hb; exact ⟨_, hc, by intro c f e; cases e⟩
        have hb70 := k70.at hLd.hb hnb
        have hf70 := sl_kt hLd.hf k70 hS70
        replace hS0 : _ ∧ _ := ⟨hb70, sl_kt hS0.2 k70 hS70⟩
        replace hppd := hppd.kt k70 (fun i h1 h2 h3 => by obtain ⟨c, hc⟩ := own_obj hLd.he h3; exact hppd.ne hc (by intro c f e; cases e) h1 h2)
        replace ktd : Kt (LayS lb evv) w w70 := ktd.trans k70 (fun i hi h => .inr ((hx i h).elim id (fun h => by omega)))
        refine ⟨fun _ => hS0, ?_⟩
        refine RunG.pure rfl rfl (fun w' => (Ev.nilCheck rfl)) (fun _ => hS0) rfl rfl ?_   -- t71
        refine RunG.pure rfl rfl (fun w' => (Ev.fieldAddr fo_105_1 rfl rfl)) (fun _ => hS0) rfl rfl ?_   -- t72
        refine RunG.step rfl rfl (Stp.store sc_55 sz_55 rfl rfl (own_one o70) hb70 (by simp) ?_)   -- tNone
        intro wT kT bT zT
        refine ⟨(fun h => by cases h), ?_⟩
        refine RunG.nil ?_
        refine At.block ?_
        refine At.then ?_
        -- region 13 (store.go:168)
        refine W.region ?_
        refine Run.ev (Ev.add rfl rfl (by omega)) rfl rfl ?_   -- t73
        refine Run.ev (Ev.move rfl) rfl rfl ?_   -- t41
        refine Run.nil ?_
        refine At.round (j + 1, v70) (Env.sub_cons rfl (Env.sub_cons rfl (Env.sub_cons rfl (Env.sub_cons rfl (Env.sub_cons rfl (Env.sub_nil _)))))) ⟨by omega, ⟨bT, sl_kt hf70 kT (by rintro b rfl; exact ⟨_, hb70, by intro c f e; cases e⟩), ?_⟩, hppd.kt kT (fun i q1 q2 q3 => by subst q3; exact hppd.ne hb70 (by intro c f e; cases e) q1 q2), sl_kt hS0.2 kT (by rintro b rfl; exact ⟨_, hb70, by intro c f e; cases e⟩), ktd.trans kT (fun i _ h => .inl h), fun i h => (n70 i h).elim (fun h => hx i h) (fun h => .inr (Nat.le_trans (Nat.le_trans kt.size (Nat.le_trans k67.size k69.size)) h))⟩ (by show (piecesP data).length - (j + 1) < (piecesP data).length - j; omega)
        have o70b : w70.ownsRow 0 118 2 v70 (ev ++ (linksP (free.take (piecesP data).length) (piecesP data)).take (j + 1)).length (evsV (ev ++ (linksP (free.take (piecesP data).length) (piecesP data)).take (j + 1))) := by
          rw [take_snoc hg, ← List.append_assoc, evs_snoc, List.length_append]
          exact o70
        exact kT.own o70b (fun i hi e => own_ne o70b hb70 (by intro c f e; cases e) (e ▸ hi))
      · replace hc50 := of_decide_eq_false hc50
        have hnx : Value.int .i64 0 = natv ((free.take (piecesP data).length).getD (j + 1) 0) := by rw [List.getD_eq_getElem?_getD, List.getElem?_eq_none (by omega)]; rfl
        refine W.skip ?_
        refine At.then ?_
        -- region 12 DRAWS (store.go:173)
        refine W.drawG (fun w' => w'.heap[lb]? = some (.cells #[fv2, x] 105 (0, 0)) ∧ Sl w' 3 1 (.slice (some ⟨b2, o2, none⟩) (piecesP data).length cg) (piecesP data).length ((free.take (piecesP data).length).map natv)) (fun j => Nat.beq j 17) [(0, true), (1, true), (2, true), (3, true), (4, true), (5, true), (6, true), (7, true), (8, true), (9, true), (10, true), (11, false), (12, true), (13, false), (14, false), (15, true), (16, true), (17, false)] (by repeat (first | exact PQ.body | with_reducible apply PQ.then | with_reducible apply PQ.block)) (by kernel_rfl) (by kernel_rfl) (by kernel_rfl) rfl ?_
        have kd := (Kt.refl No w1).drew
        have hS0 : w1.drew.heap[lb]? = some (.cells #[fv2, x] 105 (0, 0)) ∧ Sl w1.drew 3 1 (.slice (some ⟨b2, o2, none⟩) (piecesP data).length cg) (piecesP data).length ((free.take (piecesP data).length).map natv) := ⟨hL.hb, hpg.kt0 kd⟩
        have hLd := hL.kt0 kd
        have hppd := hpp.kt0 kd
        have ktd := kt.no kd
        have hkk : ∀ i : Nat, (free.take (piecesP data).length).getD i 0 < 256 := fun i => by
          rw [List.getD_eq_getElem?_getD]
          cases hq : (free.take (piecesP data).length)[i]? with
          | none => decide
          | some q => exact hfl q (List.mem_of_mem_take (List.mem_of_getElem? hq))
        refine RunG.pure rfl rfl (fun w' => (Ev.move rfl)) (fun _ => hS0) rfl rfl ?_   -- t56
        refine RunG.pure rfl rfl (fun w' => (Ev.move rfl)) (fun _ => hS0) rfl rfl ?_   -- t57
        refine RunG.pure rfl rfl (fun w' => (Ev.nilCheck rfl)) (fun _ => hS0) rfl rfl ?_   -- t58
        refine RunG.pure rfl rfl (fun w' => (Ev.fieldAddr fo_105_1 rfl rfl)) (fun _ => hS0) rfl rfl ?_   -- t59
        refine RunG.ev rfl rfl (by kernel_rfl) (fun w' hS => (Ev.load sc_55 rfl (cell_of hS.1 rfl))) hS0 rfl rfl ?_   -- t60
        refine RunG.pure rfl rfl (fun w' => (Ev.move rfl)) (fun _ => hS0) rfl rfl ?_   -- t61
        refine RunG.pure rfl rfl (fun w' => (Ev.move rfl)) (fun _ => hS0) rfl rfl ?_   -- t62
        refine RunG.pure rfl rfl (fun w' => (Ev.indexAddr Tryz.underlying48 es_3 rfl rfl (by omega) rfl)) (fun _ => hS0) rfl rfl ?_   -- t63
        refine RunG.ev rfl rfl (by kernel_rfl) (fun w' hS => (Ev.load sc_3 rfl (hS.2.cell1 (j := j) (u := natv k) (by rw [List.getElem?_map, hk]; rfl) (by omega)))) hS0 rfl rfl ?_   -- t64
        refine RunG.pure rfl rfl (fun w' => (Ev.to hnx (Ev.move rfl))) (fun _ => hS0) rfl rfl ?_   -- t65
        refine RunG.pure rfl rfl (fun w' => (Ev.move rfl)) (fun _ => hS0) rfl rfl ?_   -- t66
        refine RunG.step rfl rfl (Stp.callr en_74 rfl (link_calls ((free.take (piecesP data).length).getD (j + 1) 0) s _ (by have := hkk (j + 1); omega) hs57) rfl ?_)   -- t67
        rintro v67 w67 ⟨rfl, k67⟩
        replace hLd := hLd.kt0 k67
        replace hppd := hppd.kt0 k67
        replace ktd := ktd.no k67
        replace hS0 : _ ∧ _ := ⟨hLd.hb, hS0.2.kt0 k67⟩
        refine ⟨fun _ => hS0, ?_⟩
        refine RunG.pure rfl rfl (fun w' => (Ev.build (vs := [(0, natv k), (1, str (linkP ((free.take (piecesP data).length).getD (j + 1) 0) s))]) (v := .agg #[natv k, str (linkP ((free.take (piecesP data).length).getD (j + 1) 0) s)]) rfl rfl (by kernel_rfl))) (fun _ => hS0) rfl rfl ?_   -- t68
        refine RunG.step rfl rfl (Stp.bslice1 Tryz.underlying55 ei_118 rfl (by decide) (by decide) rfl rfl rfl ?_)   -- t69
        intro a69 w69 e69 k69 b69 z69
        replace hLd := hLd.kt0 k69
        replace hppd := hppd.kt0 k69
        replace ktd := ktd.no k69
        replace hS0 : _ ∧ _ := ⟨hLd.hb, hS0.2.kt0 k69⟩
        refine ⟨fun _ => hS0, ?_⟩
        refine RunG.step rfl rfl (Stp.append (n := (ev ++ (linksP (free.take (piecesP data).length) (piecesP data)).take j).length) (m := 1) Tryz.underlying55 ei_118 rfl (by decide) rfl rfl hLd.he b69 (evV_one ((k : Int), linkP ((free.take (piecesP data).length).getD (j + 1) 0) s)) (by rw [List.length_append, List.length_take]; omega) (by rw [List.length_append, List.length_take]; omega) rfl ?_)   -- t70
        intro v70 w70 o70 k70 n70
        have hnb : ¬ x.ownBlock = some lb := own_ne hLd.he hLd.hb (by intro c f e; cases e)
        have hS70 : ∀ b, x.ownBlock = some b → ∃ o, w69.heap[b]? = some o ∧ ∀ c f, o ≠ .cells c 3 f := fun b hb => by obtain ⟨c, hc⟩ := own_obj hLd.he hb; exact ⟨_, hc, by intro c f e; cases e⟩
        have hb70 := k70.at hLd.hb hnb
        have hf70 := sl_kt hLd.hf k70 hS70
        replace hS0 : _ ∧ _ := ⟨hb70, sl_kt hS0.2 k70 hS70⟩
        replace hppd := hppd.kt k70 (fun i h1 h2 h3 => by obtain ⟨c, hc⟩ := own_obj hLd.he h3; exact hppd.ne hc (by intro c f e; cases e) h1 h2)
        replace ktd : Kt (LayS lb evv) w w70 := ktd.trans k70 (fun i hi h => .inr ((hx i h).elim id (fun h => by omega)))
        refine ⟨fun _ => hS0, ?_⟩
        refine RunG.pure rfl rfl (fun w' => (Ev.nilCheck rfl)) (fun _ => hS0) rfl rfl ?_   -- t71
        refine RunG.pure rfl rfl (fun w' => (Ev.fieldAddr fo_105_1 rfl rfl)) (fun _ => hS0) rfl rfl ?_   -- t72
        refine RunG.step rfl rfl (Stp.store sc_55 sz_55 rfl rfl (own_one o70) hb70 (by simp) ?_)   -- tNone
        intro wT kT bT zT
        refine ⟨(fun h => by cases h), ?_⟩
        refine RunG.nil ?_
        refine At.block ?_
        refine At.then ?_
        -- region 13 (store.go:168)
        refine W.region ?_
        refine Run.ev (Ev.add rfl rfl (by omega)) rfl rfl ?_   -- t73
        refine Run.ev (Ev.move rfl) rfl rfl ?_   -- t41
        refine Run.nil ?_
        refine At.round (j + 1, v70) (Env.sub_cons rfl (Env.sub_cons rfl (Env.sub_cons rfl (Env.sub_cons rfl (Env.sub_cons rfl (Env.sub_nil _)))))) ⟨by omega, ⟨bT, sl_kt hf70 kT (by rintro b rfl; exact ⟨_, hb70, by intro c f e; cases e⟩), ?_⟩, hppd.kt kT (fun i q1 q2 q3 => by subst q3; exact hppd.ne hb70 (by intro c f e; cases e) q1 q2), sl_kt hS0.2 kT (by rintro b rfl; exact ⟨_, hb70, by intro c f e; cases e⟩), ktd.trans kT (fun i _ h => .inl h), fun i h => (n70 i h).elim (fun h => hx i h) (fun h => .inr (Nat.le_trans (Nat.le_trans kt.size (Nat.le_trans k67.size k69.size)) h))⟩ (by show (piecesP data).length - (j + 1) < (piecesP data).length - j; omega)
        have o70b : w70.ownsRow 0 118 2 v70 (ev ++ (linksP (free.take (piecesP data).length) (piecesP data)).take (j + 1)).length (evsV (ev ++ (linksP (free.take (piecesP data).length) (piecesP data)).take (j + 1))) := by
          rw [take_snoc hg, ← List.append_assoc, evs_snoc, List.length_append]
          exact o70
        exact kT.own o70b (fun i hi e => own_ne o70b hb70 (by intro c f e; cases e) (e ▸ hi))
    · replace hc42 := of_decide_eq_false hc42
      obtain rfl : j = (piecesP data).length := by omega
      rw [List.take_of_length_le (by omega)] at hL
      refine W.exit ?_
      refine At.then_exit ?_
      refine At.then_exit ?_
      refine At.block_here ?_
      refine At.then ?_
      refine W.seq ?_
      -- region 14 (store.go:175)
      refine W.region ?_
      refine Run.ev (Ev.move rfl) rfl rfl ?_   -- t74
      refine Run.ev (Ev.assign rfl) rfl rfl ?_   -- t4
      refine Run.ev (Ev.assign rfl) rfl rfl ?_   -- t5
      refine Run.nil ?_
      refine At.then ?_
      refine W.ret ?_
      exact At.ret2 rfl rfl rfl rfl ⟨fv2, x, .slice pg (piecesP data).length cg, _, _, _, true, rfl, by simpa using hsm, hL, by rw [hpl]; exact hpg, kt, hx⟩

end Go.Proofs.YtlcgeepjekcfgaaGreat
