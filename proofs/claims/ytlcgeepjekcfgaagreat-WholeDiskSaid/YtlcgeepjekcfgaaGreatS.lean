/- Stores: what reads them; Abort. -/
import Derived.Test.YtlcgeepjekcfgaaGreatR
namespace Go.Proofs.YtlcgeepjekcfgaaGreat
open Go.RowKit
set_option linter.unusedVariables false
set_option linter.unusedSimpArgs false


section
variable {X : Cx} {E : Env} {w : World} {d : Nat} {ty : TypeId} {pos : String} {aft : Array Edge} {g : Option (Nat × Bool)} {K : Env → World → Prop} {Kp : List PanicEntry → World → Prop}
/-- An empty slice, written out. -/
theorem Stp.bslice0 {t e sz by_ : Nat} {z : Value} (ht : P.underlying t = some (.slice e)) (hi : einf e = some (z, sz, by_)) (hd : Nat.blt d X.N = true)
    (h : ∀ b w', b = w.heap.size → Kt No w w' → w'.ownsRow 0 e sz (.slice (some ⟨b, 0, none⟩) 0 0) 0 [] → w'.heap.size = b + 1 → K ((d, .slice (some ⟨b, 0, none⟩) 0 0) :: E) w') :
    Stp X ⟨some d, .buildSlice t 0 #[], ty, pos, aft, g⟩ E w K Kp := by
  obtain ⟨i, h1, h2, h3, h4⟩ := einf_spec hi
  refine Stp.val (v := .slice (some ⟨w.heap.size, 0, none⟩) 0 0) (w' := w.alloc (.cells #[] e (0, 0))) (by intro c e; cases e) (fun a ha g => by
    simp [execOp, Instr.buildSlice, run_underlying ht, sizeOf, typeInfo, h1, Instr.fill, newRow]
    rw [show Array.range 0 = #[] from by simp [Array.range], Array.map_empty]) (fun a ha => ha.put hd)
    (h _ _ rfl (kt_alloc _ _) ⟨by simp, .inr ⟨_, 0, #[], rfl, Nat.zero_le _, alloc_new _ _, Nat.le_refl _, Nat.zero_le _, by simp, by simp⟩⟩ (by simp))
theorem Ev.slnil {x y : Operand} {t : TypeId} {e : TypeId} {p : Option Addr} {n c : Nat} (ht : P.underlying t = some (.slice e)) (hx : E.ev x = some (.slice p n c)) (hy : y = .const (.slice none 0 0)) : Ev X (.binOp .eql t x y t) ty E w (.bool p.isNone) w :=
  ⟨(by intro c e; cases e), fun a ha d pos aft g => by
    subst hy
    have h1 : ∀ d : Nat, (Op.equalIn (d + 1) t (.slice p n c) (.slice none 0 0)).run P w = .ok p.isNone w := fun d => by
      cases p <;> simp [Op.equalIn, run_underlying ht]
    have h2 : (binOp .eql t (.slice p n c) (.slice none 0 0)).run P w = .ok (.bool p.isNone) w := by
      simp only [binOp]; simp [Op.equal, Op.maxDepth, h1 9999]
    have h3 : (eqGuard .eql t x (.const (.slice none 0 0)) (.slice p n c) (.slice none 0 0)).run P w = .ok () w := by simp [eqGuard]
    have h4 : a.eval (.const (.slice none 0 0)) = .slice none 0 0 := rfl
    simp [execOp, ha.ev hx, h4, h2, h3]⟩
end

theorem perm_map_inv {α β : Type} {g : α → β} {a b : List β} (h : a.Perm b) : ∀ l : List α, l.map g = a → ∃ l', l.Perm l' ∧ l'.map g = b := by
  induction h with
  | nil => intro l hl; exact ⟨l, .refl _, hl⟩
  | cons x _ ih =>
    intro l hl
    cases l with
    | nil => cases hl
    | cons y r =>
      cases hl
      obtain ⟨l', h1, h2⟩ := ih r rfl
      exact ⟨y :: l', h1.cons y, by rw [List.map_cons, h2]⟩
  | swap x y l0 =>
    intro l hl
    match l, hl with
    | u :: v :: r, hl =>
      cases hl
      exact ⟨v :: u :: r, .swap _ _ _, rfl⟩
  | trans _ _ ih1 ih2 =>
    intro l hl
    obtain ⟨l1, h1, h2⟩ := ih1 l hl
    obtain ⟨l2, h3, h4⟩ := ih2 l1 h2
    exact ⟨l2, h1.trans h3, h4⟩
theorem perm_map_cons {α β : Type} {g : α → β} {l : List α} {y : β} {r : List β} (h : (l.map g).Perm (y :: r)) : ∃ x l', l.Perm (x :: l') ∧ g x = y ∧ l'.map g = r := by
  obtain ⟨l', h1, h2⟩ := perm_map_inv h l rfl
  cases l' with
  | nil => cases h2
  | cons x l' => cases h2; exact ⟨x, l', h1, rfl, rfl⟩
theorem mset_new {κ V : Type} [DecidableEq κ] {m : List (κ × V)} {k : κ} {v : V} (h : k ∉ m.map (·.1)) : mset m k v = m ++ [(k, v)] := by
  induction m with
  | nil => rfl
  | cons x r ih =>
    obtain ⟨a, u⟩ := x
    simp only [List.map_cons, List.mem_cons, not_or] at h
    simp only [mset, if_neg h.1, ih h.2]; rfl

/-! ### A store -/
abbrev EvP := Int × Bs
def evV (e : EvP) : List Value := [.int .i64 e.1, str e.2]
def evsV (l : List EvP) : List Value := l.flatMap evV
def nowV (m : List (Bs × Bs)) : List (Bs × Value) := m.map fun p => (p.1, str p.2)
structure Sto where
  g : Nat
  d : Nat
  s : Nat
  k : Nat
  dl : List Nat
  fs : List (Bs × FV)
  pages : List Bs
  now : List (Bs × Bs)
  ev : List EvP
  mb : Nat
  mn : Nat
  pb : Nat
  cap : Nat
  dv : Value
  evv : Value
def Sto.pv (t : Sto) : Value := .slice (some ⟨t.pb, 0, none⟩) 256 t.cap
def Sto.cells (t : Sto) (nv : Value) : Array Value := #[natv t.g, natv t.d, natv t.s, natv t.k, .map (some t.mb), t.dv, t.pv, nv, t.evv]
/-- A store, whose files of now are nv. -/
structure StoQ (b : Nat) (t : Sto) (nv : Value) (w : World) : Prop where
  hb : w.heap[b]? = some (.cells (t.cells nv) 57 (0, 0))
  hf : FilesR w t.mb t.fs
  hd : Sl w 3 1 t.dv t.dl.length (t.dl.map natv)
  hpg : w.ownsRow 0 9 1 t.pv 256 (t.pages.map str)
  hev : w.ownsRow 0 118 2 t.evv t.ev.length (evsV t.ev)
structure StoR (b : Nat) (t : Sto) (w : World) : Prop where
  q : StoQ b t (.map (some t.mn)) w
  hmn : MapR str w t.mn (nowV t.now)
  hne : t.mb ≠ t.mn
/-- An object that is none of a store's. -/
def foreign (o : Obj) : Prop := ∃ c T f, o = .cells c T f ∧ T ≠ 57 ∧ T ≠ 3 ∧ T ≠ 118 ∧ T ≠ 9
theorem StoQ.kt {b : Nat} {t : Sto} {nv : Value} {w w' : World} {S : Nat → Prop} (h : StoQ b t nv w) (hk : Kt S w w') (hb : ¬ S b) (hm : ¬ S t.mb) (hp : ¬ S t.pb) (he : ∀ k, t.evv.ownBlock = some k → ¬ S k) (hS : ∀ i, S i → ∃ o, w.heap[i]? = some o ∧ ∀ c f, o ≠ .cells c 3 f) : StoQ b t nv w' :=
  ⟨hk.at h.hb hb, h.hf.kt hk hm hS, sl_kt h.hd hk hS, hk.own h.hpg (fun k hk' => by cases hk'; exact hp), hk.own h.hev he⟩
theorem StoQ.kt0 {b : Nat} {t : Sto} {nv : Value} {w w' : World} (h : StoQ b t nv w) (hk : Kt No w w') : StoQ b t nv w' := h.kt hk id id id (fun _ _ => id) (fun _ h => h.elim)
theorem StoR.kt0 {b : Nat} {t : Sto} {w w' : World} (h : StoR b t w) (hk : Kt No w w') : StoR b t w' := ⟨h.q.kt0 hk, h.hmn.kt0 hk, h.hne⟩
theorem StoQ.ktf {b : Nat} {t : Sto} {nv : Value} {w w' : World} {S : Nat → Prop} (h : StoQ b t nv w) (hk : Kt S w w') (hS : ∀ i, S i → ∃ o, w.heap[i]? = some o ∧ foreign o) : StoQ b t nv w' := by
  have key : ∀ i o, w.heap[i]? = some o → ¬ foreign o → ¬ S i := fun i o ho hn hs => by
    obtain ⟨o', ho', hf⟩ := hS i hs
    rw [ho] at ho'; cases ho'; exact hn hf
  obtain ⟨es, c, hmb⟩ := h.hf.1.obj
  refine h.kt hk (key _ _ h.hb ?_) (key _ _ hmb ?_) ?_ ?_ ?_
  · rintro ⟨c, T, f, he, h1, _⟩; cases he; exact h1 rfl
  · rintro ⟨c, T, f, he, _⟩; cases he
  · rcases h.hpg.2 with ⟨h0, _⟩ | ⟨g, cap, cur, hv, _, hg, _⟩
    · cases h0
    · cases hv
      exact key _ _ hg (by rintro ⟨c, T, f, he, _, _, _, h1⟩; cases he; exact h1 rfl)
  · intro k hk'
    rcases h.hev.2 with ⟨h0, _⟩ | ⟨g, cap, cur, hv, _, hg, _⟩
    · rw [h0] at hk'; cases hk'
    · rw [hv] at hk'; cases hk'
      exact key _ _ hg (by rintro ⟨c, T, f, he, _, _, h1, _⟩; cases he; exact h1 rfl)
  · intro i hi
    obtain ⟨o, ho, c, T, f, rfl, _, h1, _⟩ := hS i hi
    exact ⟨_, ho, by intro c' f' e; cases e; exact h1 rfl⟩
theorem StoR.ktf {b : Nat} {t : Sto} {w w' : World} {S : Nat → Prop} (h : StoR b t w) (hk : Kt S w w') (hS : ∀ i, S i → ∃ o, w.heap[i]? = some o ∧ foreign o) : StoR b t w' :=
  ⟨h.q.ktf hk hS, h.hmn.kt hk (fun hs => by obtain ⟨o, ho, c, T, f, rfl, _⟩ := hS _ hs; exact h.hmn.ne_cells ho rfl), h.hne⟩
theorem StoQ.ev_one {b : Nat} {t : Sto} {nv : Value} {w : World} (h : StoQ b t nv w) : t.evv.oneCell' = true := own_one h.hev

theorem clone16_calls (p : Option Addr) (cap n : Nat) (l : List Bs) (w : World) (h : Sl w 9 1 (.slice p n cap) n (l.map str)) (h0 : 0 < n) (hn : n ≤ 1000000) : Calls P 16 [.slice p n cap].toArray w (Ret fun v w' => ∃ b c, v = .slice (some ⟨b, 0, none⟩) n c ∧ w.heap.size ≤ b ∧ w'.ownsRow 0 9 1 v n (l.map str) ∧ Kt No w w') := by
  obtain ⟨b, off, rfl⟩ := h.ptr h0
  obtain ⟨i, h1, h2, h3, h4⟩ := einf_spec ei_9
  refine Calls.mono (Tryz.slices_Clone_f16 i (str []) 1 16 h1 h2 h3 h4 rfl (by omega) (fun w => by simp [sizeOf, typeInfo, h1, h3]) b off n cap (l.map str) w h.1 (by rw [maxLen_le]; omega) (by omega) (fun j u hu => h.cell1 hu rfl) ?_) ?_
  · intro u hu
    rw [List.mem_map] at hu
    obtain ⟨s, _, rfl⟩ := hu; rfl
  · rintro e w' ⟨v', rfl, ho, _, hb⟩
    rcases ho.2 with ⟨_, hz⟩ | ⟨g, c, cur, rfl, hg, rest⟩
    · omega
    · exact ⟨g, c, rfl, hg, ⟨ho.1, .inr ⟨g, c, cur, rfl, Nat.zero_le _, rest⟩⟩, Kt.of_below hb⟩


theorem StoQ.upd {b : Nat} {t : Sto} {nv : Value} {w : World} (h : StoQ b t nv w) (now : List (Bs × Bs)) (mn : Nat) : StoQ b { t with now := now, mn := mn } nv w := ⟨h.hb, h.hf, h.hd, h.hpg, h.hev⟩
theorem own_lt {w : World} {e sz n pb cap : Nat} {xs : List Value} (h : w.ownsRow 0 e sz (.slice (some ⟨pb, 0, none⟩) n cap) n xs) : pb < w.heap.size := by
  rcases h.2 with ⟨h0, _⟩ | ⟨g, cap, cur, hv, _, hg, _⟩
  · cases h0
  · cases hv; exact blk_lt hg
theorem StoQ.setNow {b a : Nat} {t : Sto} {nv : Value} {w w' : World} (h : StoQ b t nv w) (hk : Kt (fun i => i = b) w w') (hb : w'.heap[b]? = some (.cells ((t.cells nv).setIfInBounds 7 (.map (some a))) 57 (0, 0))) : StoQ b t (.map (some a)) w' := by
  have hS : ∀ i, i = b → ∃ o, w.heap[i]? = some o ∧ ∀ c f, o ≠ .cells c 3 f := by rintro i rfl; exact ⟨_, h.hb, by intro c f e; cases e⟩
  exact ⟨hb, h.hf.kt hk (h.hf.1.ne_cells h.hb) hS, sl_kt h.hd hk hS, hk.own h.hpg (fun k hk' e => own_ne h.hpg h.hb (by intro c f e; cases e) (e ▸ hk')), hk.own h.hev (fun k hk' e => own_ne h.hev h.hb (by intro c f e; cases e) (e ▸ hk'))⟩
section
variable {κ : Type} {enc : κ → Value} {w : World} {r b : Nat} {left : List (κ × Value)}
theorem IterR.obj (h : IterR enc w r b left) : ∃ o, w.heap[r]? = some o ∧ ∀ c T f, o ≠ .cells c T f := by
  obtain ⟨es, clock, seen, h1, h2, h3, h4, _⟩ := h
  exact ⟨_, h4, by intro c T f e; cases e⟩
theorem IterR.objne (h : IterR enc w r b left) : ∃ o, w.heap[r]? = some o ∧ ∀ c f, o ≠ .cells c 3 f := by
  obtain ⟨o, ho, hn⟩ := h.obj
  exact ⟨o, ho, fun c f => hn c 3 f⟩
theorem IterR.ne_own2 (h : IterR enc w r b left) {base e sz n : Nat} {v : Value} {xs : List Value} (ho : w.ownsRow base e sz v n xs) {i : Nat} (hi : v.ownBlock = some i) : i = r → False := by
  rintro rfl
  obtain ⟨o, h1, h2⟩ := h.obj
  exact own_ne ho h1 (fun c f => h2 c e f) hi
theorem IterR.ne_own (h : IterR enc w r b left) {e sz n pb cap : Nat} {xs : List Value} (ho : w.ownsRow 0 e sz (.slice (some ⟨pb, 0, none⟩) n cap) n xs) : r ≠ pb := fun e => h.ne_own2 ho rfl e.symm
end
theorem fv_one {w : World} {f : Bs × FV} {n : Nat} {xs : List Value} (h : Sl w 3 1 f.2.2.2 n xs) : ∀ v ∈ [str f.2.1, f.2.2.2], v.oneCell' = true := by
  intro v hv
  simp at hv
  rcases hv with rfl | rfl
  · rfl
  · exact h.one
theorem MapR.objne {κ : Type} {enc : κ → Value} {w : World} {b : Nat} {m : List (κ × Value)} (h : MapR enc w b m) : ∃ o, w.heap[b]? = some o ∧ ∀ c f, o ≠ .cells c 3 f := by
  obtain ⟨es, c, ho⟩ := h.obj
  exact ⟨_, ho, by intro c f e; cases e⟩
theorem MapR.ne_own2 {κ : Type} {enc : κ → Value} {w : World} {b : Nat} {m : List (κ × Value)} (h : MapR enc w b m) {base e sz n : Nat} {v : Value} {xs : List Value} (ho : w.ownsRow base e sz v n xs) {i : Nat} (hi : v.ownBlock = some i) : i = b → False := by
  rintro rfl
  obtain ⟨es, c, h1⟩ := h.obj
  exact own_ne ho h1 (by intro c f e; cases e) hi
theorem MapR.ne_own {κ : Type} {enc : κ → Value} {w : World} {b : Nat} {m : List (κ × Value)} (h : MapR enc w b m) {e sz n pb cap : Nat} {xs : List Value} (ho : w.ownsRow 0 e sz (.slice (some ⟨pb, 0, none⟩) n cap) n xs) : b ≠ pb := fun e => h.ne_own2 ho rfl e.symm
theorem abort_new {t : Sto} {l l1 : List (Bs × FV)} {f : Bs × FV} {acc : List (Bs × Bs)} (hp : (acc ++ l.map fun p => (p.1, p.2.1)).Perm (t.fs.map fun p => (p.1, p.2.1))) (hpl : l.Perm (f :: l1)) (hnd : ((filesV t.fs).map (·.1)).Nodup) :
    f.1 ∉ acc.map (·.1) ∧ ((acc ++ [(f.1, f.2.1)]) ++ l1.map fun p => (p.1, p.2.1)).Perm (t.fs.map fun p => (p.1, p.2.1)) := by
  have h1 : (acc ++ (f :: l1).map fun p => (p.1, p.2.1)).Perm (t.fs.map fun p => (p.1, p.2.1)) := ((List.Perm.refl acc).append (hpl.symm.map _)).trans hp
  have h2 : ((acc ++ [(f.1, f.2.1)]) ++ l1.map fun p => (p.1, p.2.1)) = (acc ++ (f :: l1).map fun p => (p.1, p.2.1)) := by simp
  refine ⟨?_, by rw [h2]; exact h1⟩
  have h3 := (h1.map (·.1)).nodup_iff.2 (by
    have e : (t.fs.map fun p => (p.1, p.2.1)).map (·.1) = (filesV t.fs).map (·.1) := by simp [filesV, Function.comp_def]
    rw [e]; exact hnd)
  intro hmem
  rw [List.map_append, List.nodup_append] at h3
  exact h3.2.2 _ hmem f.1 (by simp) rfl

theorem Generation_calls (b : Nat) (t : Sto) (w : World) (h : StoR b t w) : Calls P 11 [.pointer (some ⟨b, 0, none⟩)].toArray w (Ret fun v w' => v = natv t.g ∧ w' = w) := by
  refine enterW 9 Tryz.func11 rfl rfl rfl ?_
  refine W.seq ?_
  -- region 0 (store.go:138)
  refine W.region ?_
  refine Run.ev (Ev.assign rfl) rfl rfl ?_   -- t2
  refine Run.nil ?_
  refine At.then ?_
  refine W.seq ?_
  -- region 1 (store.go:138)
  refine W.region ?_
  refine Run.ev (Ev.move rfl) rfl rfl ?_   -- t3
  refine Run.ev (Ev.nilCheck rfl) rfl rfl ?_   -- t4
  refine Run.ev (Ev.fieldAddr fo_57_0 rfl rfl) rfl rfl ?_   -- t5
  refine Run.ev (Ev.fieldAddr fo_50_0 rfl rfl) rfl rfl ?_   -- t6
  refine Run.ev (Ev.fieldAddr fo_46_0 rfl rfl) rfl rfl ?_   -- t7
  refine Run.ev (Ev.load sc_3 rfl (cell_of h.q.hb rfl)) rfl rfl ?_   -- t8
  refine Run.ev (Ev.assign rfl) rfl rfl ?_   -- t2
  refine Run.nil ?_
  refine At.then ?_
  refine W.ret ?_
  exact At.ret1 rfl rfl rfl ⟨rfl, rfl⟩

theorem Pages_calls (b : Nat) (t : Sto) (w : World) (h : StoR b t w) : Calls P 9 [.pointer (some ⟨b, 0, none⟩)].toArray w (Ret fun v w' => ∃ pb c, v = .slice (some ⟨pb, 0, none⟩) 256 c ∧ w.heap.size ≤ pb ∧ w'.ownsRow 0 9 1 v 256 (t.pages.map str) ∧ Kt No w w') := by
  refine enterW 8 Tryz.func9 rfl rfl rfl ?_
  refine W.seq ?_
  -- region 0 (store.go:141)
  refine W.region ?_
  refine Run.ev (Ev.assign rfl) rfl rfl ?_   -- t2
  refine Run.nil ?_
  refine At.then ?_
  refine W.seq ?_
  -- region 1 (store.go:141)
  refine W.region ?_
  refine Run.ev (Ev.move rfl) rfl rfl ?_   -- t3
  refine Run.ev (Ev.nilCheck rfl) rfl rfl ?_   -- t4
  refine Run.ev (Ev.fieldAddr fo_57_1 rfl rfl) rfl rfl ?_   -- t5
  refine Run.ev (Ev.load sc_34 rfl (cell_of h.q.hb rfl)) rfl rfl ?_   -- t6
  refine Run.step rfl (Stp.callr en_16 rfl (clone16_calls _ _ _ t.pages w (Sl.of_own h.q.hpg) (by omega) (by omega)) rfl ?_)   -- t7
  rintro v7 w7 ⟨pb, c, rfl, h1, h2, h3⟩
  refine Run.ev (Ev.assign rfl) rfl rfl ?_   -- t2
  refine Run.nil ?_
  refine At.then ?_
  refine W.ret ?_
  exact At.ret1 rfl rfl rfl ⟨pb, c, rfl, h1, h2, h3⟩


theorem own_i {a n c i m : Nat} (h : (Value.slice (some ⟨a, 0, none⟩) n c).ownBlock = some i) (hm : m ≤ a) : m ≤ i := by cases h; exact hm
theorem evs_one (l : List EvP) : ∀ u ∈ evsV l, u.oneCell' = true := by
  intro u hu
  simp only [evsV, List.mem_flatMap, evV] at hu
  obtain ⟨e, _, he⟩ := hu
  simp at he
  rcases he with rfl | rfl <;> rfl
theorem hnil {w : World} {n cap e sz : Nat} {xs : List Value} (h : w.ownsRow 0 e sz (.slice none n cap) n xs) : w.ownsRow 0 e sz (.slice none 0 0) n xs := by
  refine ⟨h.1, .inl ⟨rfl, ?_⟩⟩
  rcases h.2 with ⟨_, h0⟩ | ⟨g, c, cur, hv, _⟩
  · exact h0
  · cases hv

theorem clone57_calls (v : Value) (l : List EvP) (w : World) (h : w.ownsRow 0 118 2 v l.length (evsV l)) (hl : l.length ≤ 1000000) : Calls P 57 [v].toArray w (Ret fun u w' => w'.ownsRow 0 118 2 u l.length (evsV l) ∧ Kt No w w' ∧ ∀ k, u.ownBlock = some k → w.heap.size ≤ k) := by
  obtain ⟨p, cap, rfl, hc1, hc2⟩ := (Sl.of_own h).len
  refine enterW 8 Tryz.func57 rfl rfl rfl ?_
  refine W.seq ?_
  -- region 0 (slices.go:355)
  refine W.region ?_
  refine Run.ev (Ev.assign rfl) rfl rfl ?_   -- t2
  refine Run.nil ?_
  refine At.then ?_
  refine W.seq ?_
  refine W.seq ?_
  -- region 1 (slices.go:357)
  refine W.region ?_
  refine Run.ev (Ev.move rfl) rfl rfl ?_   -- t3
  refine Run.ev (Ev.slnil Tryz.underlying55 rfl rfl) rfl rfl ?_   -- t4
  refine Run.nil ?_
  refine At.then ?_
  refine W.cond rfl (fun hc4 => ?_) (fun hc4 => ?_)
  · obtain rfl : p = none := by cases p; rfl; cases hc4
    refine W.seq ?_
    -- region 2 (slices.go:358)
    refine W.region ?_
    refine Run.ev (Ev.assign rfl) rfl rfl ?_   -- t2
    refine Run.nil ?_
    refine At.then ?_
    refine W.ret ?_
    refine At.then_ret ?_
    exact At.ret1 rfl rfl rfl ⟨hnil h, Kt.refl _ _, fun k hk => by cases hk⟩
  · refine W.skip ?_
    refine At.then ?_
    refine W.seq ?_
    -- region 3 (slices.go:362)
    refine W.region ?_
    refine Run.step rfl (Stp.bslice0 Tryz.underlying55 ei_118 rfl ?_)   -- t5
    intro a5 w5 e5 k5 b5 z5
    refine Run.ev (Ev.move rfl) rfl rfl ?_   -- t6
    refine Run.step rfl (Stp.append (n := 0) (m := l.length) (ys := evsV l) Tryz.underlying55 ei_118 rfl (by decide) rfl rfl b5 ((Sl.of_own h).kt0 k5) (evs_one l) (by omega) (by omega) rfl ?_)   -- t7
    intro v7 w7 o7 k7 n7
    refine Run.ev (Ev.assign rfl) rfl rfl ?_   -- t2
    refine Run.nil ?_
    refine At.then ?_
    refine W.ret ?_
    exact At.ret1 rfl rfl rfl ⟨by simpa using o7, k5.new k7 (fun i hi => own_i hi (by omega)), fun k hk => (n7 k hk).elim (fun hh => own_i hh (by omega)) (fun hh => by omega)⟩

theorem Events_calls (b : Nat) (t : Sto) (w : World) (h : StoR b t w) (hl : t.ev.length ≤ 1000000) : Calls P 30 [.pointer (some ⟨b, 0, none⟩)].toArray w (Ret fun u w' => w'.ownsRow 0 118 2 u t.ev.length (evsV t.ev) ∧ Kt No w w' ∧ ∀ k, u.ownBlock = some k → w.heap.size ≤ k) := by
  refine enterW 8 Tryz.func30 rfl rfl rfl ?_
  refine W.seq ?_
  -- region 0 (store.go:144)
  refine W.region ?_
  refine Run.ev (Ev.assign rfl) rfl rfl ?_   -- t2
  refine Run.nil ?_
  refine At.then ?_
  refine W.seq ?_
  -- region 1 (store.go:144)
  refine W.region ?_
  refine Run.ev (Ev.move rfl) rfl rfl ?_   -- t3
  refine Run.ev (Ev.nilCheck rfl) rfl rfl ?_   -- t4
  refine Run.ev (Ev.fieldAddr fo_57_3 rfl rfl) rfl rfl ?_   -- t5
  refine Run.ev (Ev.load sc_55 rfl (cell_of h.q.hb rfl)) rfl rfl ?_   -- t6
  refine Run.step rfl (Stp.callr en_57 rfl (clone57_calls _ t.ev w h.q.hev hl) rfl ?_)   -- t7
  rintro v7 w7 ⟨h1, h2, h3⟩
  refine Run.ev (Ev.assign rfl) rfl rfl ?_   -- t2
  refine Run.nil ?_
  refine At.then ?_
  refine W.ret ?_
  exact At.ret1 rfl rfl rfl ⟨h1, h2, h3⟩

theorem Abort_calls (b : Nat) (t : Sto) (nv : Value) (w : World) (h : StoQ b t nv w) :
    Calls P 8 [.pointer (some ⟨b, 0, none⟩)].toArray w (Ret fun v w' => v = .tuple #[] ∧ ∃ now mn, now.Perm (t.fs.map fun p => (p.1, p.2.1)) ∧ w.heap.size ≤ mn ∧ StoR b { t with now := now, mn := mn } w' ∧ Kt (fun i => i = b) w w') := by
  have hmb := h.hf.1.lt
  have hpbl := own_lt h.hpg
  have hnd := h.hf.1.nodup
  have hbl0 := blk_lt h.hb
  refine enterW 26 Tryz.func8 rfl rfl rfl ?_
  refine W.seq ?_
  -- region 0 (store.go:148)
  refine W.region ?_
  refine Run.ev (Ev.move rfl) rfl rfl ?_   -- t4
  refine Run.step rfl (Stp.makeMap rfl ?_)   -- t5
  intro a5 w5 e5 k5 b5 z5
  have hm := MapR.empty (enc := str) b5
  replace h := h.kt0 k5
  refine Run.ev (Ev.nilCheck rfl) rfl rfl ?_   -- t6
  refine Run.ev (Ev.fieldAddr fo_57_2 rfl rfl) rfl rfl ?_   -- t7
  refine Run.step rfl (Stp.store sc_54 sz_54 rfl rfl rfl h.hb (by simp [Sto.cells]) ?_)   -- tNone
  intro wS kS bS zS
  have hq : StoQ b t (.map (some a5)) wS := h.setNow kS bS
  replace hm := hm.kt kS (Ne.symm (hm.ne_cells h.hb).symm)
  have kt : Kt (fun i => i = b) w wS := (k5.mono (fun _ _ e => e.elim)).trans kS (fun i _ e => e)
  refine Run.nil ?_
  refine At.then ?_
  refine W.seq ?_
  -- region 1 (store.go:149)
  refine W.region ?_
  refine Run.ev (Ev.move rfl) rfl rfl ?_   -- t8
  refine Run.ev (Ev.nilCheck rfl) rfl rfl ?_   -- t9
  refine Run.ev (Ev.fieldAddr fo_57_0 rfl rfl) rfl rfl ?_   -- t10
  refine Run.ev (Ev.fieldAddr fo_50_2 rfl rfl) rfl rfl ?_   -- t11
  refine Run.ev (Ev.load sc_47 rfl (cell_of hq.hb rfl)) rfl rfl ?_   -- t12
  refine Run.step rfl (Stp.range Tryz.underlying47 rfl hq.hf.1 rfl ?_)   -- t13
  intro a13 w13 e13 k13 b13 z13
  replace hq := hq.kt0 k13
  replace hm := hm.kt0 k13
  replace kt := kt.no k13
  refine Run.nil ?_
  refine At.then ?_
  refine W.block ?_
  refine W.loop (fun (x : List (Bs × FV) × List (Bs × Bs)) => [(0, .pointer (some ⟨b, 0, none⟩)), (13, .pointer (some ⟨a13, 0, none⟩))])
    (fun x w' => StoQ b t (.map (some a5)) w' ∧ MapR str w' a5 (nowV x.2) ∧ IterR str w' a13 t.mb (filesV x.1) ∧ Kt (fun i => i = b) w w' ∧ (x.2 ++ x.1.map fun p => (p.1, p.2.1)).Perm (t.fs.map fun p => (p.1, p.2.1)) ∧ ∀ q ∈ x.1, q ∈ t.fs)
    (fun x => x.1.length) (t.fs, []) ⟨hq, hm, b13, kt, by simp, fun q hq => hq⟩ (Env.sub_cons rfl (Env.sub_cons rfl (Env.sub_nil _))) ?_
  clear hq hm b13 kt
  rintro ⟨l, acc⟩ wl ⟨hq, hm, hit, kt, hp, hin⟩
  dsimp only at hm hit hp hin
  have hne5 : t.mb ≠ a5 := by omega
  have hl5 := hm.lt
  have hl13 := hit.lt
  have hlk := kt.size
  refine W.seq ?_
  -- region 2 (store.go:149)
  refine W.region ?_
  refine Run.step rfl (Stp.next rfl (hit) rfl ?_ ?_)   -- t14
  · intro hl0 w14 k14 z14
    obtain rfl : l = [] := by cases l with | nil => rfl | cons x r => cases hl0
    refine Run.ev (Ev.extract rfl rfl) rfl rfl ?_   -- t15
    refine Run.nil ?_
    refine At.then ?_
    refine W.seq ?_
    refine W.cond_f rfl ?_
    refine W.exit ?_
    refine At.then_exit ?_
    refine At.then_exit ?_
    refine At.block_here ?_
    exact At.end0 rfl rfl ⟨rfl, acc, a5, by simpa using hp, by omega, ⟨(hq.kt0 k14).upd acc a5, hm.kt0 k14, hne5⟩, kt.no k14⟩
  · intro k v left1 w14 hp1 k14 hit1 hent z14
    obtain ⟨f, l1, hpl, hf1, rfl⟩ := perm_map_cons hp1
    cases hf1
    have hr13 : ¬ t.mb = a13 := by omega
    replace hq := hq.kt k14 (Ne.symm (hit.ne_cells hq.hb)) hr13 (Ne.symm (hit.ne_own hq.hpg)) (fun i hi e => hit.ne_own2 hq.hev hi e) (by rintro i rfl; exact hit.objne)
    replace hm := hm.kt k14 (by omega)
    replace kt := kt.new k14 (by rintro i rfl; omega)
    refine Run.ev (Ev.extract rfl rfl) rfl rfl ?_   -- t15
    refine Run.nil ?_
    refine At.then ?_
    refine W.seq ?_
    refine W.cond_t rfl ?_
    refine W.skip ?_
    refine At.then ?_
    refine W.block ?_
    refine W.seq ?_
    -- region 3 (store.go:149)
    refine W.region ?_
    refine Run.ev (Ev.entry rfl hent) rfl rfl ?_   -- t16
    refine Run.ev (Ev.extract rfl rfl) rfl rfl ?_   -- t17
    refine Run.ev (Ev.extract rfl rfl) rfl rfl ?_   -- t18
    refine Run.step rfl (Stp.alloc zc_76 rfl ?_)   -- t3
    intro a3 w3 e3 k3 b3 z3
    replace hq := hq.kt0 k3
    replace hm := hm.kt0 k3
    replace hit1 := hit1.kt k3 id id
    replace kt := kt.no k3
    have hfv : Sl w3 3 1 f.2.2.2 f.2.2.1.length (f.2.2.1.map natv) := hq.hf.2 f (hin f (hpl.mem_iff.2 List.mem_cons_self))
    refine Run.ev (Ev.assign rfl) rfl rfl ?_   -- t2
    refine Run.step rfl (Stp.storeA (vs := [str f.2.1, f.2.2.2]) ag_76 rfl rfl rfl (fv_one hfv) b3 (by simp) ?_)   -- tNone
    intro wT kT bT zT
    have hbl := blk_lt hq.hb
    replace hq := hq.ktf kT (by rintro i rfl; exact ⟨_, b3, _, _, _, rfl, by decide, by decide, by decide, by decide⟩)
    replace hm := hm.kt kT (by have := hm.lt; omega)
    replace hit1 := hit1.kt kT (by have := hit1.lt; omega) (by omega)
    replace kt := kt.new kT (by rintro i rfl; omega)
    refine Run.nil ?_
    refine At.then ?_
    -- region 4 DRAWS (store.go:150)
    refine W.draw (fun w' => w'.heap[b]? = some (.cells (t.cells (.map (some a5))) 57 (0, 0)) ∧ w'.heap[a3]? = some (.cells #[str f.2.1, f.2.2.2] 76 (0, 0))) [(0, true), (1, true), (2, true), (3, true), (4, true), (5, true), (6, true), (7, false)] (by repeat (first | exact PQ.body | with_reducible apply PQ.then | with_reducible apply PQ.block)) (by kernel_rfl) (by kernel_rfl) (by kernel_rfl) rfl ?_
    have hS0 : wT.drew.heap[b]? = some (.cells (t.cells (.map (some a5))) 57 (0, 0)) ∧ wT.drew.heap[a3]? = some (.cells #[str f.2.1, f.2.2.2] 76 (0, 0)) := ⟨hq.hb, bT⟩
    have kd := (Kt.refl No wT).drew
    refine RunD.ev rfl (fun w' hS => (Ev.move rfl)) hS0 rfl rfl ?_   -- t19
    refine RunD.ev rfl (fun w' hS => (Ev.nilCheck rfl)) hS0 rfl rfl ?_   -- t20
    refine RunD.ev rfl (fun w' hS => (Ev.fieldAddr fo_57_2 rfl rfl)) hS0 rfl rfl ?_   -- t21
    refine RunD.ev rfl (fun w' hS => (Ev.load sc_54 rfl (cell_of hS.1 rfl))) hS0 rfl rfl ?_   -- t22
    refine RunD.ev rfl (fun w' hS => (Ev.move rfl)) hS0 rfl rfl ?_   -- t23
    refine RunD.ev rfl (fun w' hS => (Ev.fieldAddr fo_76_0 rfl rfl)) hS0 rfl rfl ?_   -- t24
    refine RunD.ev rfl (fun w' hS => (Ev.load sc_9 rfl (cell_of hS.2 rfl))) hS0 rfl rfl ?_   -- t25
    refine RunD.step rfl rfl (Stp.mapUpdate (k := f.1) keyStr Tryz.underlying54 Tryz.underlying9 rfl rfl rfl (hm.kt0 kd) ?_)   -- tNone
    intro wU kU bU zU
    obtain ⟨hnew, hp2⟩ := abort_new hp hpl hnd
    replace bU : MapR str wU a5 (mset (nowV acc) f.1 (str f.2.1)) := bU
    rw [show mset (nowV acc) f.1 (str f.2.1) = nowV (acc ++ [(f.1, f.2.1)]) from (mset_map str acc f.1 f.2.1).trans (by rw [mset_new hnew]; rfl)] at bU
    replace hq := (hq.kt0 kd).kt kU (Ne.symm (hm.ne_cells hq.hb)) hne5 (fun e => by have := hm.ne_own hq.hpg; exact this e.symm) (fun i hi e => hm.ne_own2 hq.hev hi e) (by rintro i rfl; exact (hm.kt0 kd).objne)
    replace hS0 : _ ∧ _ := ⟨hq.hb, kU.at hS0.2 (by omega)⟩
    have s3 := hit1.lt
    replace hit1 := (hit1.kt kd id id).kt kU (by omega) hne5
    replace kt := (kt.no kd).new kU (by rintro i rfl; omega)
    refine ⟨hS0, ?_⟩
    refine RunD.nil ?_
    refine At.block ?_
    refine At.round (l1, acc ++ [(f.1, f.2.1)]) (Env.sub_cons rfl (Env.sub_cons rfl (Env.sub_nil _))) ⟨hq, bU, hit1, kt, hp2, fun q hq => hin q (hpl.mem_iff.2 (List.mem_cons_of_mem _ hq))⟩ ?_
    show l1.length < l.length
    rw [hpl.length_eq]; simp

end Go.Proofs.YtlcgeepjekcfgaaGreat
