/- A commit: the plain text, and what it holds. -/
import Derived.Test.YtlcgeepjekcfgaaGreatY
namespace Go.Proofs.YtlcgeepjekcfgaaGreat
open Go.RowKit
set_option linter.unusedVariables false
set_option linter.unusedSimpArgs false


/-! ### The plain commit -/
structure CSt where
  free : List Nat
  ev : List EvP
  fs : List (Bs × (Bs × List Nat))
  dirB : Bs
def entP (name data : Bs) (l : List Nat) : Bs := be name.length 1 ++ name ++ be data.length 2 ++ be (l.headD 0) 2
def CSt.add (c : CSt) (name data : Bs) (l : List Nat) : CSt := { c with fs := mset c.fs name (data, l), dirB := c.dirB ++ entP name data l }
def oldP (fs : List (Bs × (Bs × List Nat))) (name data : Bs) : Option (List Nat) := match mget fs name with
  | some f => if f.1 = data then some f.2 else none
  | none => none
def comLoop (now : List (Bs × Bs)) (fs : List (Bs × (Bs × List Nat))) : List Bs → CSt → Option CSt
  | [], c => some c
  | name :: r, c =>
    match oldP fs name ((mget now name).getD []) with
    | some l => comLoop now fs r (c.add name ((mget now name).getD []) l)
    | none =>
      match chainW c.free ((mget now name).getD []) with
      | none => none
      | some (pages, free, evs) => comLoop now fs r ({ c with free := free, ev := c.ev ++ evs }.add name ((mget now name).getD []) pages)
structure Com where
  dl : List Nat
  fs : List (Bs × (Bs × List Nat))
  ev : List EvP
  dlen : Nat
def comP (g k : Nat) (now : List (Bs × Bs)) (fs : List (Bs × (Bs × List Nat))) (free : List Nat) : Option Com :=
  if g = 1073741824 then none
  else match comLoop now fs (sortP (now.map (·.1))) ⟨free, [], [], []⟩ with
    | none => none
    | some c => match chainW c.free c.dirB with
      | none => none
      | some (pages, _, evs) => some ⟨pages, c.fs, (((c.ev ++ evs) ++ [(-1, [])]) ++ [((k : Int), rootP (g + 1) (pages.headD 0) c.dirB.length)]) ++ [(-1, [])], c.dirB.length⟩
def applyP (pages : List Bs) (ev : List EvP) : List Bs := ev.foldl (fun ps e => if 0 ≤ e.1 then ps.set e.1.toNat e.2 else ps) pages
theorem applyP_len (ev : List EvP) : ∀ pages, (applyP pages ev).length = pages.length := by
  induction ev with
  | nil => intro p; rfl
  | cons e r ih =>
    intro p
    show (applyP (if 0 ≤ e.1 then p.set e.1.toNat e.2 else p) r).length = _
    rw [ih]; split <;> simp
theorem applyP_snoc (pages : List Bs) (ev : List EvP) (e : EvP) : applyP pages (ev ++ [e]) = if 0 ≤ e.1 then (applyP pages ev).set e.1.toNat e.2 else applyP pages ev := by simp [applyP]

/-! ### What a commit holds -/
def Bst (B : World → Prop) (a5 : Nat) : Prop := ∀ (w w' : World) (S : Nat → Prop), B w → Kt S w w' → ¬ S a5 → (∀ i, S i → ∃ o, w.heap[i]? = some o ∧ ∀ c f, o ≠ .cells c 5 f) → B w'
structure CoI (w0 : World) (lb a4 mb a5 n0 : Nat) (free : List Nat) (ev : List EvP) (fv evv : Value) (nfs : List (Bs × FV)) (B : World → Prop) (c4 : Array Value) (w : World) : Prop where
  hL : LayR lb free ev fv evv w
  hF : FilesR w mb nfs
  hB : B w
  h108 : ∃ c f, w.heap[a5]? = some (.cells c 108 f)
  hst : Bst B a5
  h4 : w.heap[a4]? = some (.cells c4 50 (0, 0))
  kt : Kt No w0 w
  he : ∀ i, evv.ownBlock = some i → w0.heap.size ≤ i
  hn : n0 ≤ w.heap.size
theorem BuR.ktS {n0 b : Nat} {w w' : World} {s : Bs} {S : Nat → Prop} (h : BuR n0 w b s) (hk : Kt S w w') (h1 : ¬ S b) (hS : ∀ i, S i → ∃ o, w.heap[i]? = some o ∧ ∀ c f, o ≠ .cells c 5 f) : BuR n0 w' b s := by
  obtain ⟨p, v, hp, hb, ho⟩ := h
  exact ⟨p, v, hp, hk.at hb h1, hk.own ho (fun k hk' hs => by obtain ⟨o, h1, h2⟩ := hS k hs; exact own_ne ho h1 h2 hk')⟩
section
variable {w0 : World} {lb a4 mb a5 n0 : Nat} {free : List Nat} {ev : List EvP} {fv evv : Value} {nfs : List (Bs × FV)} {B : World → Prop} {c4 : Array Value} {w w' : World}
theorem CoI.kt0 (h : CoI w0 lb a4 mb a5 n0 free ev fv evv nfs B c4 w) (hk : Kt No w w') : CoI w0 lb a4 mb a5 n0 free ev fv evv nfs B c4 w' :=
  ⟨h.hL.kt0 hk, h.hF.kt0 hk, h.hst _ _ _ h.hB hk id (fun _ h => h.elim), by obtain ⟨c, f, h⟩ := h.h108; exact ⟨c, f, hk.at0 h⟩, h.hst, hk.at0 h.h4, h.kt.no hk, h.he, Nat.le_trans h.hn hk.size⟩
theorem CoI.new {S : Nat → Prop} (h : CoI w0 lb a4 mb a5 n0 free ev fv evv nfs B c4 w) (hk : Kt S w w') (hS : ∀ i, S i → w0.heap.size ≤ i ∧ ∃ c f, w.heap[i]? = some (.cells c 76 f)) : CoI w0 lb a4 mb a5 n0 free ev fv evv nfs B c4 w' := by
  have n : ∀ (i : Nat) (c : Array Value) (T : TypeId) (f : Nat × Nat), w.heap[i]? = some (.cells c T f) → T ≠ 76 → ¬ S i := fun i c T f hi hT hs => by
    obtain ⟨_, c', f', h'⟩ := hS i hs
    rw [hi] at h'; cases h'; exact hT rfl
  have hb5 : ¬ S a5 := by obtain ⟨c, f, hb⟩ := h.h108; exact n _ _ _ _ hb (by decide)
  refine ⟨h.hL.kt hk (n _ _ _ _ h.hL.hb (by decide)) (fun i hs => ?_), h.hF.kt hk (fun hs => ?_) (fun i hs => ?_), h.hst _ _ _ h.hB hk hb5 (fun i hs => ?_), by obtain ⟨c, f, h⟩ := h.h108; exact ⟨c, f, hk.at h hb5⟩, h.hst, hk.at h.h4 (n _ _ _ _ h.h4 (by decide)), h.kt.new hk (fun i hs => (hS i hs).1), h.he, Nat.le_trans h.hn hk.size⟩
  · obtain ⟨_, c, f, h'⟩ := hS i hs
    exact ⟨_, h', (by intro c f e; cases e), (by intro c f e; cases e)⟩
  · obtain ⟨_, c, f, h'⟩ := hS _ hs
    exact h.hF.1.ne_cells h' rfl
  · obtain ⟨_, c, f, h'⟩ := hS i hs
    exact ⟨_, h', by intro c f e; cases e⟩
  · obtain ⟨_, c, f, h'⟩ := hS i hs
    exact ⟨_, h', by intro c f e; cases e⟩
theorem CoI.lay {free' : List Nat} {ev' : List EvP} {fv' evv' : Value} (h : CoI w0 lb a4 mb a5 n0 free ev fv evv nfs B c4 w) (hlb : w0.heap.size ≤ lb) (hk : Kt (LayS lb evv) w w') (hL : LayR lb free' ev' fv' evv' w') (he' : ∀ i, evv'.ownBlock = some i → evv.ownBlock = some i ∨ w.heap.size ≤ i) : CoI w0 lb a4 mb a5 n0 free' ev' fv' evv' nfs B c4 w' := by
  have o : ∀ i, LayS lb evv i → w0.heap.size ≤ i ∧ ∃ c T f, w.heap[i]? = some (.cells c T f) ∧ (T = 105 ∨ T = 118) := fun i hi => by
    rcases hi with rfl | hi
    · exact ⟨hlb, _, _, _, h.hL.hb, .inl rfl⟩
    · obtain ⟨c, hc⟩ := own_obj h.hL.he hi
      exact ⟨h.he i hi, _, _, _, hc, .inr rfl⟩
  have n : ∀ (i : Nat) (c : Array Value) (T : TypeId) (f : Nat × Nat), w.heap[i]? = some (.cells c T f) → T ≠ 105 → T ≠ 118 → ¬ LayS lb evv i := fun i c T f hi h1 h2 hs => by
    obtain ⟨_, c', T', f', h', h3⟩ := o i hs
    rw [hi] at h'; cases h'; rcases h3 with h3 | h3; exact h1 h3; exact h2 h3
  have hb5 : ¬ LayS lb evv a5 := by obtain ⟨c, f, hb⟩ := h.h108; exact n _ _ _ _ hb (by decide) (by decide)
  refine ⟨hL, h.hF.kt hk (fun hs => ?_) (fun i hs => ?_), h.hst _ _ _ h.hB hk hb5 (fun i hs => ?_), by obtain ⟨c, f, h⟩ := h.h108; exact ⟨c, f, hk.at h hb5⟩, h.hst, hk.at h.h4 (n _ _ _ _ h.h4 (by decide) (by decide)), h.kt.new hk (fun i hs => (o i hs).1), fun i hi => (he' i hi).elim (h.he i) (fun hh => Nat.le_trans h.kt.size hh), Nat.le_trans h.hn hk.size⟩
  · obtain ⟨_, c, T, f, h', _⟩ := o _ hs
    exact h.hF.1.ne_cells h' rfl
  · obtain ⟨_, c, T, f, h', h3⟩ := o i hs
    exact ⟨_, h', by intro c f e; cases e; rcases h3 with h3 | h3 <;> cases h3⟩
  · obtain ⟨_, c, T, f, h', h3⟩ := o i hs
    exact ⟨_, h', by intro c f e; cases e; rcases h3 with h3 | h3 <;> cases h3⟩
theorem CoI.put {name : Bs} {v : FV} (h : CoI w0 lb a4 mb a5 n0 free ev fv evv nfs B c4 w) (hmb : w0.heap.size ≤ mb) (hk : Kt (fun i => i = mb) w w') (hm : MapR str w' mb (mset (filesV nfs) name (fvV v))) (hv : Sl w 3 1 v.2.2 v.2.1.length (v.2.1.map natv)) : CoI w0 lb a4 mb a5 n0 free ev fv evv (mset nfs name v) B c4 w' := by
  obtain ⟨es, c, ho⟩ := h.hF.1.obj
  have hb5 : a5 ≠ mb := by obtain ⟨c, f, hb⟩ := h.h108; exact Ne.symm (h.hF.1.ne_cells hb)
  refine ⟨h.hL.kt hk (Ne.symm (h.hF.1.ne_cells h.hL.hb)) (by rintro i rfl; exact ⟨_, ho, (by intro c f e; cases e), (by intro c f e; cases e)⟩), ⟨?_, fun q hq => ?_⟩, h.hst _ _ _ h.hB hk hb5 (by rintro i rfl; exact ⟨_, ho, by intro c f e; cases e⟩), by obtain ⟨c, f, h⟩ := h.h108; exact ⟨c, f, hk.at h hb5⟩, h.hst, hk.at h.h4 (Ne.symm (h.hF.1.ne_cells h.h4)), h.kt.new hk (by rintro i rfl; exact hmb), h.he, Nat.le_trans h.hn hk.size⟩
  · have e : mset (filesV nfs) name (fvV v) = filesV (mset nfs name v) := mset_map fvV nfs name v
    rwa [e] at hm
  · have hS : ∀ b, b = mb → ∃ o, w.heap[b]? = some o ∧ ∀ c f, o ≠ .cells c 3 f := by rintro b rfl; exact ⟨_, ho, by intro c f e; cases e⟩
    rcases mset_mem hq with hq | rfl
    · exact sl_kt (h.hF.2 q hq) hk hS
    · exact sl_kt hv hk hS
theorem Bk.kt5 {n0 b : Nat} (hk : Bk n0 b w w') : Kt (fun i => (i = b ∨ n0 ≤ i) ∧ (i = b ∨ ∃ c f, w.heap[i]? = some (.cells c 5 f))) w w' :=
  ⟨hk.kt.os, hk.kt.tape, hk.kt.output, hk.kt.size, fun i hi hn => by
    obtain ⟨o, ho⟩ : ∃ o, w.heap[i]? = some o := ⟨_, Array.getElem?_eq_getElem hi⟩
    by_cases h1 : i = b ∨ n0 ≤ i
    · have h2 : ¬ (i = b ∨ ∃ c f, w.heap[i]? = some (.cells c 5 f)) := fun h2 => hn ⟨h1, h2⟩
      rw [ho]
      exact hk.keep i o ho (fun e => h2 (.inl e)) (fun c f e => h2 (.inr ⟨c, f, by rw [ho, e]⟩))
    · exact hk.kt.block i hi h1⟩
def byS (b : Nat) (w : World) : Nat → Prop := fun i => i = b ∨ ∃ c f, w.heap[i]? = some (.cells c 5 f)
/-- The builder has changed: it, and rows of bytes. -/
theorem CoI.wr {B' : World → Prop} {S : Nat → Prop} (h : CoI w0 lb a4 mb a5 n0 free ev fv evv nfs B c4 w) (hk : Kt S w w') (hS : ∀ i, S i → w0.heap.size ≤ i ∧ byS a5 w i) (hB : B' w') (hst : Bst B' a5) (h108' : ∃ c f, w'.heap[a5]? = some (.cells c 108 f)) : CoI w0 lb a4 mb a5 n0 free ev fv evv nfs B' c4 w' := by
  obtain ⟨c5, f5, h108⟩ := h.h108
  have o : ∀ i, S i → ∃ c T f, w.heap[i]? = some (.cells c T f) ∧ (T = 108 ∨ T = 5) := fun i hi => by
    rcases (hS i hi).2 with rfl | ⟨c, f, hc⟩
    · exact ⟨_, _, _, h108, .inl rfl⟩
    · exact ⟨_, _, _, hc, .inr rfl⟩
  have n : ∀ (i : Nat) (c : Array Value) (T : TypeId) (f : Nat × Nat), w.heap[i]? = some (.cells c T f) → T ≠ 108 → T ≠ 5 → ¬ S i := fun i c T f hi h1 h2 hs => by
    obtain ⟨c', T', f', h', h3⟩ := o i hs
    rw [hi] at h'; cases h'; rcases h3 with h3 | h3; exact h1 h3; exact h2 h3
  refine ⟨h.hL.kt hk (n _ _ _ _ h.hL.hb (by decide) (by decide)) (fun i hs => ?_), h.hF.kt hk (fun hs => ?_) (fun i hs => ?_), hB, h108', hst, hk.at h.h4 (n _ _ _ _ h.h4 (by decide) (by decide)), h.kt.new hk (fun i hs => (hS i hs).1), h.he, Nat.le_trans h.hn hk.size⟩
  · obtain ⟨c, T, f, h', h3⟩ := o i hs
    exact ⟨_, h', (by intro c f e; cases e; rcases h3 with h3 | h3 <;> cases h3), (by intro c f e; cases e; rcases h3 with h3 | h3 <;> cases h3)⟩
  · obtain ⟨c, T, f, h', _⟩ := o _ hs
    exact h.hF.1.ne_cells h' rfl
  · obtain ⟨c, T, f, h', h3⟩ := o i hs
    exact ⟨_, h', by intro c f e; cases e; rcases h3 with h3 | h3 <;> cases h3⟩
theorem CoI.st4 {c4' : Array Value} (h : CoI w0 lb a4 mb a5 n0 free ev fv evv nfs B c4 w) (h40 : w0.heap.size ≤ a4) (hk : Kt (fun i => i = a4) w w') (h4 : w'.heap[a4]? = some (.cells c4' 50 (0, 0))) : CoI w0 lb a4 mb a5 n0 free ev fv evv nfs B c4' w' := by
  have n : ∀ (i : Nat) (c : Array Value) (T : TypeId) (f : Nat × Nat), w.heap[i]? = some (.cells c T f) → T ≠ 50 → ¬ i = a4 := fun i c T f hi h1 hs => by
    subst hs; exact h1 (by have := h.h4; rw [hi] at this; cases this; rfl)
  obtain ⟨c5, f5, h108⟩ := h.h108
  have hS : ∀ (T' : TypeId), T' ≠ 50 → ∀ i, i = a4 → ∃ o, w.heap[i]? = some o ∧ ∀ c f, o ≠ .cells c T' f := fun T' hT => by rintro i rfl; exact ⟨_, h.h4, by intro c f e; cases e; exact hT rfl⟩
  refine ⟨h.hL.kt hk (n _ _ _ _ h.hL.hb (by decide)) (by rintro i rfl; exact ⟨_, h.h4, (by intro c f e; cases e), (by intro c f e; cases e)⟩), h.hF.kt hk (h.hF.1.ne_cells h.h4) (hS 3 (by decide)), h.hst _ _ _ h.hB hk (n _ _ _ _ h108 (by decide)) (hS 5 (by decide)), ⟨_, _, hk.at h108 (n _ _ _ _ h108 (by decide))⟩, h.hst, h4, h.kt.new hk (by rintro i rfl; exact h40), h.he, Nat.le_trans h.hn hk.size⟩
end
theorem Bst.bu {n0 b : Nat} {s : Bs} : Bst (fun w => BuR n0 w b s) b := fun w w' S h hk h1 hS => h.ktS hk h1 hS
theorem Bst.bf {b : Nat} {l : List Value} : Bst (fun w => Lib.IsBuilderF 108 5 b b l w) b := fun w w' S h hk h1 hS => by
  have key : ∀ p, Lib.BuilderAtF 108 5 b b p l w → Lib.BuilderAtF 108 5 b b p l w' := fun p ⟨hB, v, hb, hown, hne⟩ => by
    refine ⟨hB, v, hk.at hb h1, ⟨hown.1, ?_⟩, hne⟩
    rcases hown.2 with h0 | ⟨g, cap, cur, fz, hv, hbg, hg, rest⟩
    · exact .inl h0
    · exact .inr ⟨g, cap, cur, fz, hv, hbg, hk.at hg (fun hs => by obtain ⟨o, ho, hn⟩ := hS g hs; rw [hg] at ho; cases ho; exact hn _ _ rfl), rest⟩
  exact h.imp (key _) (key _)
theorem okt {b : Nat} {w w' : World} (hbl : Below b w w') (hok : Lib.OthersKept 5 (some b) w w') : Kt (fun i => b ≤ i ∧ byS b w i) w w' :=
  ⟨hbl.os, hbl.tape, hbl.output, hbl.size, fun i hi hn => by
    by_cases h1 : b ≤ i
    · obtain ⟨o, ho⟩ : ∃ o, w.heap[i]? = some o := ⟨_, Array.getElem?_eq_getElem hi⟩
      have h2 : ¬ byS b w i := fun h2 => hn ⟨h1, h2⟩
      rw [ho]
      exact hok i o ho (fun e => h2 (.inl (by cases e; rfl))) (fun c f e => h2 (.inr ⟨c, f, by rw [ho, e]⟩))
    · exact hbl.block i (by omega)⟩
theorem LenF_calls (b : Nat) (s : Bs) (w : World) (h : Lib.IsBuilderF 108 5 b b (Lib.byteCells s) w) : Calls P 55 [.pointer (some ⟨b, 0, none⟩)].toArray w (Ret fun v w' => v = natv s.length ∧ w' = w) :=
  Calls.mono (Tryz.Builder_Len_f b b (Lib.byteCells s) w h) fun e w' ⟨he, h1⟩ => by
    subst he
    exact ⟨by simp [natv, Lib.byteCells], h1⟩
def gFd (o : Option FV) : Bs := (o.map (·.1)).getD []
def gFp (o : Option FV) : Value := (o.map (·.2.2)).getD (.slice none 0 0)
theorem gF_val (o : Option FV) : (o.map fvV).getD (.agg #[str [], .slice none 0 0]) = .agg #[str (gFd o), gFp o] := by cases o <;> rfl

end Go.Proofs.YtlcgeepjekcfgaaGreat
