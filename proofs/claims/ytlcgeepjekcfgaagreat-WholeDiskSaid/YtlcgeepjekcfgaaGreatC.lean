/- The rules of memory, over the base: what is kept, loads, stores, new blocks, calls. -/
import Derived.Test.YtlcgeepjekcfgaaGreatB
import Derived.RangeFuncNested
namespace Go.Proofs.YtlcgeepjekcfgaaGreat
open Go.RowKit
set_option linter.unusedVariables false
set_option linter.unusedSimpArgs false

/-- All blocks of w that are not in S lie in w' as they lay; new blocks may have come. -/
structure Kt (S : Nat → Prop) (w w' : World) : Prop where
  os : w'.os = w.os
  tape : w'.tape = w.tape
  output : w'.output = w.output
  size : w.heap.size ≤ w'.heap.size
  block : ∀ k, k < w.heap.size → ¬ S k → w'.heap[k]? = w.heap[k]?

def No : Nat → Prop := fun _ => False
theorem no_no (k : Nat) : ¬ No k := id

theorem Kt.refl (S : Nat → Prop) (w : World) : Kt S w w := ⟨rfl, rfl, rfl, Nat.le_refl _, fun _ _ _ => rfl⟩
theorem Kt.trans {S S' : Nat → Prop} {a b c : World} (h : Kt S a b) (k : Kt S' b c) (hs : ∀ i, i < a.heap.size → S' i → S i) : Kt S a c :=
  ⟨k.os.trans h.os, k.tape.trans h.tape, k.output.trans h.output, Nat.le_trans h.size k.size, fun i hi hn =>
    (k.block i (Nat.lt_of_lt_of_le hi h.size) (fun e => hn (hs i hi e))).trans (h.block i hi hn)⟩
theorem Kt.no {S : Nat → Prop} {a b c : World} (h : Kt S a b) (k : Kt No b c) : Kt S a c := h.trans k (fun _ _ e => e.elim)
theorem Kt.mono {S S' : Nat → Prop} {a b : World} (h : Kt S a b) (hs : ∀ i, i < a.heap.size → S i → S' i) : Kt S' a b :=
  ⟨h.os, h.tape, h.output, h.size, fun i hi hn => h.block i hi (fun e => hn (hs i hi e))⟩
/-- a change of a block that is new. -/
theorem Kt.new {S S' : Nat → Prop} {a b c : World} (h : Kt S a b) (k : Kt S' b c) (hs : ∀ i, S' i → a.heap.size ≤ i) : Kt S a c :=
  h.trans k (fun i hi e => absurd (hs i e) (by omega))
theorem Kt.of_grown {w w' : World} {row : Option Nat} (h : w.grownBy w' row) : Kt (fun k => row = some k) w w' :=
  ⟨h.os, h.tape, h.output, h.size, fun k hk hn => h.block k hk (fun e => hn e.symm)⟩
theorem Kt.of_below {w w' : World} (h : Below w.heap.size w w') : Kt No w w' := ⟨h.os, h.tape, h.output, h.size, fun k hk _ => h.block k hk⟩
theorem Kt.below {w w' : World} (h : Kt No w w') : Below w.heap.size w w' := ⟨h.os, h.tape, h.output, h.size, fun k hk => h.block k hk id⟩
theorem Kt.at {S : Nat → Prop} {w w' : World} (h : Kt S w w') {b : Nat} {o : Obj} (hb : w.heap[b]? = some o) (hn : ¬ S b) : w'.heap[b]? = some o :=
  (h.block b (Array.getElem?_eq_some_iff.1 hb).1 hn).trans hb
theorem Kt.at0 {w w' : World} (h : Kt No w w') {b : Nat} {o : Obj} (hb : w.heap[b]? = some o) : w'.heap[b]? = some o := h.at hb id
theorem Kt.drew {S : Nat → Prop} {w w' : World} (h : Kt S w w') : Kt S w w'.drew := ⟨h.os, h.tape, h.output, h.size, h.block⟩
theorem kt_alloc (w : World) (o : Obj) : Kt No w (w.alloc o) := ⟨rfl, rfl, rfl, by simp, fun k hk _ => Below.heap_alloc w o k hk⟩
theorem kt_put (w : World) (b : Nat) (o : Obj) : Kt (fun k => k = b) w (w.putObj b o) := ⟨rfl, rfl, rfl, by simp, fun k hk hn => World.putObj_heap_other hn⟩
theorem blk_lt {w : World} {b : Nat} {o : Obj} (h : w.heap[b]? = some o) : b < w.heap.size := (Array.getElem?_eq_some_iff.1 h).1
theorem put_same {w : World} {b : Nat} {o o' : Obj} (h : w.heap[b]? = some o') : (w.putObj b o).heap[b]? = some o := World.putObj_heap_same (blk_lt h)
theorem Kt.own {S : Nat → Prop} {w w' : World} (h : Kt S w w') {base : Nat} {e : TypeId} {sz : Nat} {v : Value} {n : Nat} {xs : List Value} (ho : w.ownsRow base e sz v n xs) (hn : ∀ k, v.ownBlock = some k → ¬ S k) :
    w'.ownsRow base e sz v n xs := by
  refine ⟨ho.1, ?_⟩
  rcases ho.2 with h0 | ⟨g, cap, cur, rfl, hb, hg, rest⟩
  · exact .inl h0
  · exact .inr ⟨g, cap, cur, rfl, hb, h.at hg (hn g rfl), rest⟩
theorem Kt.own0 {w w' : World} (h : Kt No w w') {base : Nat} {e : TypeId} {sz : Nat} {v : Value} {n : Nat} {xs : List Value} (ho : w.ownsRow base e sz v n xs) : w'.ownsRow base e sz v n xs := h.own ho (fun _ _ => id)
theorem cell_of {w : World} {b : Nat} {cs : Array Value} {t : TypeId} {fr : Nat × Nat} {i : Nat} {v : Value} (h : w.heap[b]? = some (.cells cs t fr)) (hv : cs[i]? = some v) : w.cell? ⟨b, i, none⟩ = some v := by
  simp [World.cell?, h, hv]
theorem Kt.cell {S : Nat → Prop} {w w' : World} (h : Kt S w w') {p : Addr} {v : Value} (hc : w.cell? p = some v) (hn : ¬ S p.block) : w'.cell? p = some v :=
  (World.cell?_of_block (h.block p.block (World.block_lt_of_cell? w p hc) hn)).trans hc

/-- A type whose values fill one cell. -/
noncomputable def scal (t : TypeId) : Bool := match P.underlying t with
  | some (.struct _) => false
  | some (.array _ _) => false
  | none => false
  | _ => true
theorem run_isAgg_scal {t : TypeId} (h : scal t = true) (w : World) : (isAgg t).run P w = .ok false w := by
  unfold scal at h
  cases hu : P.underlying t with
  | none => rw [hu] at h; cases h
  | some ds =>
    rw [hu] at h
    cases ds <;> first | (simp at h; done) | simp [isAgg, run_underlying hu]
/-- A type whose values fill so many cells of an aggregate. -/
noncomputable def aggr (t : TypeId) : Option Nat := match P.underlying t with
  | some (.struct _) => (P.info? t).map (·.size)
  | some (.array _ _) => (P.info? t).map (·.size)
  | _ => none
theorem run_isAgg_aggr {t n : Nat} (h : aggr t = some n) (w : World) : (isAgg t).run P w = .ok true w ∧ (sizeOf t).run P w = .ok n w := by
  unfold aggr at h
  cases hu : P.underlying t with
  | none => rw [hu] at h; cases h
  | some ds =>
    rw [hu] at h
    cases ds <;> first | (simp at h; done) | (
      simp only [Option.map_eq_some_iff] at h
      obtain ⟨i, hi, rfl⟩ := h
      simp [isAgg, run_underlying hu, sizeOf, typeInfo, hi])

theorem run_loadCellsFrom (w : World) (p : Addr) : ∀ (vs : List Value) (i : Nat) (acc : Array Value), (∀ j (u : Value), vs[j]? = some u → w.cell? (p.add (i + j)) = some u) →
    (loadCellsFrom p i vs.length acc).run P w = .ok (acc ++ vs.toArray) w := by
  intro vs
  induction vs with
  | nil => intro i acc _; simp [loadCellsFrom]
  | cons v vs ih =>
    intro i acc h
    have h0 := h 0 v rfl
    have h1 := ih (i + 1) (acc.push v) (fun j u hu => by have := h (j + 1) u (by simpa using hu); rw [show i + (j + 1) = i + 1 + j from by omega] at this; exact this)
    simp only [Nat.add_zero] at h0
    simp [loadCellsFrom, load, Sem.run_bind, Sem.run, h0, Result.andThen, h1]

theorem add_lit (b o n : Nat) : (⟨b, o, none⟩ : Addr).add n = ⟨b, o + n, none⟩ := by unfold Addr.add; split <;> simp_all

/-- Cells from off on become these. -/
def over (cs : Array Value) (off : Nat) : List Value → Array Value
  | [] => cs
  | v :: vs => over (cs.setIfInBounds off v) (off + 1) vs
theorem over_size (vs : List Value) : ∀ (cs : Array Value) (off : Nat), (over cs off vs).size = cs.size := by
  induction vs with
  | nil => intro cs off; rfl
  | cons v vs ih => intro cs off; simp [over, ih]

theorem setCell_eq_put {w : World} {b i : Nat} {cs : Array Value} {t : TypeId} {fr : Nat × Nat} (v : Value) (h : w.heap[b]? = some (.cells cs t fr)) : w.setCell ⟨b, i, none⟩ v = w.putObj b (.cells (cs.setIfInBounds i v) t fr) := by
  unfold World.setCell World.putObj
  congr 1
  apply Array.ext'
  obtain ⟨hlt, hb⟩ := Array.getElem?_eq_some_iff.1 h
  simp only [Array.toList_modify, Array.toList_setIfInBounds]
  apply List.ext_getElem?
  intro k
  simp only [List.getElem?_modify, List.getElem?_set]
  by_cases hk : b = k
  · subst hk
    simp [hlt, hb]
  · simp [hk]

theorem run_storeCells (vs : List Value) : ∀ (w : World) (b off i : Nat) (cs : Array Value) (t : TypeId), w.heap[b]? = some (.cells cs t (0, 0)) → off + i + vs.length ≤ cs.size → (∀ v ∈ vs, v.oneCell' = true) →
    (storeCells ⟨b, off, none⟩ vs i).run P w = .ok () (w.putObj b (.cells (over cs (off + i) vs) t (0, 0))) := by
  induction vs with
  | nil =>
    intro w b off i cs t hb _ _
    have : w.putObj b (.cells (over cs (off + i) []) t (0, 0)) = w := by
      unfold World.putObj over
      obtain ⟨hlt, hb'⟩ := Array.getElem?_eq_some_iff.1 hb
      have : w.heap.setIfInBounds b (.cells cs t (0, 0)) = w.heap := by
        apply Array.ext'
        simp only [Array.toList_setIfInBounds]
        apply List.ext_getElem?
        intro k
        simp only [List.getElem?_set]
        by_cases hk : b = k
        · subst hk; simp [hlt, hb']
        · simp [hk]
      rw [this]
    simp [storeCells, this]
  | cons v vs ih =>
    intro w b off i cs t hb hfit h1
    have hc : w.cell? ⟨b, off + i, none⟩ = some (cs[off + i]'(by simp at hfit; omega)) := cell_of hb (by rw [Array.getElem?_eq_getElem])
    have hfr : w.frozen? ⟨b, off + i, none⟩ = false := by simp [World.frozen?, hb]
    have hv := h1 v (by simp)
    have hrec := ih (w.putObj b (.cells (cs.setIfInBounds (off + i) v) t (0, 0))) b off (i + 1) (cs.setIfInBounds (off + i) v) t (put_same hb) (by simp at hfit ⊢; omega) (fun u hu => h1 u (by simp [hu]))
    have hpp : ∀ (o o' : Obj), (w.putObj b o).putObj b o' = w.putObj b o' := by intro o o'; simp [World.putObj]
    simp only [storeCells, add_lit, Sem.run_bind]
    have hs : (store ⟨b, off + i, none⟩ v).run P w = .ok () (w.setCell ⟨b, off + i, none⟩ v) := by
      unfold store
      cases v <;> first | (simp [Value.oneCell'] at hv; done) | simp [Sem.run, hc, hfr]
    rw [hs]
    simp only [Result.andThen_ok]
    rw [setCell_eq_put v hb, hrec, hpp]
    simp [over, Nat.add_assoc]

noncomputable def fo (s f : Nat) : Option Nat := match P.underlying s with
  | some (.struct fs) => match fs[f]? with
    | some fl => match P.info? fl.type with
      | some i => if i.size = 0 then none else some fl.offset
      | none => none
    | none => none
  | _ => none

theorem run_fieldAt {s f k b o : Nat} (h : fo s f = some k) (w : World) : (Instr.fieldAt s (.pointer (some ⟨b, o, none⟩)) f).run P w = .ok (.pointer (some ⟨b, o + k, none⟩)) w := by
  unfold fo at h
  cases hu : P.underlying s with
  | none => rw [hu] at h; cases h
  | some ds =>
    rw [hu] at h
    cases ds <;> first | (simp at h; done) | skip
    rename_i fs
    simp only at h
    cases hf : fs[f]? with
    | none => rw [hf] at h; cases h
    | some fl =>
      rw [hf] at h
      simp only at h
      cases hi : P.info? fl.type with
      | none => rw [hi] at h; cases h
      | some i =>
        rw [hi] at h
        simp only at h
        split at h
        · cases h
        · rename_i hne
          cases h
          simp [Instr.fieldAt, run_underlying hu, hf, Instr.sureAddr, fieldPlace, sizeOf, typeInfo, hi, hne, add_lit]

/-- The cells of a type's zero value. -/
noncomputable def zc (t : TypeId) : Option (Array Value) := (P.info? t).bind fun i => i.zero.map Value.cells
theorem run_zero {t : TypeId} {cs : Array Value} (h : zc t = some cs) (w : World) : ∃ v, (zeroValue t).run P w = .ok v w ∧ v.cells = cs := by
  unfold zc at h
  simp only [Option.bind_eq_some_iff, Option.map_eq_some_iff] at h
  obtain ⟨i, hi, v, hv, rfl⟩ := h
  exact ⟨v, by simp [zeroValue, typeInfo, hi, hv], rfl⟩

theorem alloc_new (w : World) (o : Obj) : (w.alloc o).heap[w.heap.size]? = some o := World.alloc_heap_new w o

section
variable {X : Cx} {E : Env} {w : World} {d : Nat} {ty : TypeId} {pos : String} {aft : Array Edge} {g : Option (Nat × Bool)} {K : Env → World → Prop} {Kp : List PanicEntry → World → Prop}

theorem Ev.fieldAddr {x : Operand} {s f b o k m : Nat} (hf : fo s f = some k) (hx : E.ev x = some (.pointer (some ⟨b, o, none⟩))) (hm : o + k = m) : Ev X (.fieldAddr s x f) ty E w (.pointer (some ⟨b, m, none⟩)) w :=
  ⟨(by intro c e; cases e), fun a ha d pos aft g => by subst hm; simp [execOp, ha.ev hx, run_fieldAt hf]⟩

theorem Ev.load {x : Operand} {t : TypeId} {p : Addr} {v : Value} (ht : scal t = true) (hx : E.ev x = some (.pointer (some p))) (hc : w.cell? p = some v) : Ev X (.load t x) ty E w (v) w :=
  ⟨(by intro c e; cases e), fun a ha d pos aft g => by simp [execOp, ha.ev hx, Instr.loadAt, Instr.sureAddr, loadVar, run_isAgg_scal ht, Go.load, Sem.run, hc]⟩

theorem Ev.loadA {x : Operand} {t b o n : Nat} {cs : Array Value} {T : TypeId} {fr : Nat × Nat} {vs : List Value} (ht : aggr t = some n) (hx : E.ev x = some (.pointer (some ⟨b, o, none⟩))) (hb : w.heap[b]? = some (.cells cs T fr))
    (hv : (cs.toList.drop o).take n = vs) (hn : vs.length = n) : Ev X (.load t x) ty E w (.agg vs.toArray) w :=
  ⟨(by intro c e; cases e), fun a ha d pos aft g => by
    have h1 := (run_isAgg_aggr ht w).1
    have h2 := (run_isAgg_aggr ht w).2
    have h3 := run_loadCellsFrom w ⟨b, o, none⟩ vs 0 #[] (fun j u hu => by
      rw [add_lit]
      refine cell_of hb ?_
      subst hv
      rw [List.getElem?_take] at hu
      split at hu
      · simpa using hu
      · cases hu)
    rw [hn] at h3
    simp [execOp, ha.ev hx, Instr.loadAt, Instr.sureAddr, loadVar, h1, h2, loadCells, h3]⟩

theorem Stp.store {x y : Operand} {t : TypeId} {b o : Nat} {v : Value} {cs : Array Value} {T : TypeId} (ht : scal t = true) (h1 : (P.info? t).map (·.size) = some 1) (hx : E.ev x = some (.pointer (some ⟨b, o, none⟩))) (hy : E.ev y = some v) (h0 : v.oneCell' = true)
    (hb : w.heap[b]? = some (.cells cs T (0, 0))) (hlt : o < cs.size)
    (h : ∀ w', Kt (fun k => k = b) w w' → w'.heap[b]? = some (.cells (cs.setIfInBounds o v) T (0, 0)) → w'.heap.size = w.heap.size → K E w') : Stp X ⟨none, .store t x y, ty, pos, aft, g⟩ E w K Kp :=
  Stp.skp (w' := w.putObj b (.cells (cs.setIfInBounds o v) T (0, 0))) (by intro c e; cases e) (fun a ha g => by
    simp only [Option.map_eq_some_iff] at h1
    obtain ⟨i, hi, hsz⟩ := h1
    have hcs : v.cells = #[v] := by cases v <;> first | rfl | cases h0
    have hr := run_storeCells [v] w b o 0 cs T hb (by simp; omega) (by simpa using h0)
    simp only [over, Nat.add_zero] at hr
    simp [execOp, ha.ev hx, ha.ev hy, Instr.storeAt, Instr.sureAddr, storeVar, hcs, sizeOf, typeInfo, hi, hsz, hr]) (fun a ha => ha)
    (h _ (kt_put _ _ _) (put_same hb) (by simp))

theorem Stp.storeA {x y : Operand} {t : TypeId} {b o n : Nat} {vs : List Value} {cs : Array Value} {T : TypeId} (ht : aggr t = some n) (hx : E.ev x = some (.pointer (some ⟨b, o, none⟩))) (hy : E.ev y = some (.agg vs.toArray)) (hn : vs.length = n) (h0 : ∀ v ∈ vs, v.oneCell' = true)
    (hb : w.heap[b]? = some (.cells cs T (0, 0))) (hlt : o + n ≤ cs.size)
    (h : ∀ w', Kt (fun k => k = b) w w' → w'.heap[b]? = some (.cells (over cs o vs) T (0, 0)) → w'.heap.size = w.heap.size → K E w') : Stp X ⟨none, .store t x y, ty, pos, aft, g⟩ E w K Kp :=
  Stp.skp (w' := w.putObj b (.cells (over cs o vs) T (0, 0))) (by intro c e; cases e) (fun a ha g => by
    have h2 := (run_isAgg_aggr ht w).2
    have hr := run_storeCells vs w b o 0 cs T hb (by omega) h0
    simp only [Nat.add_zero] at hr
    simp [execOp, ha.ev hx, ha.ev hy, Instr.storeAt, Instr.sureAddr, storeVar, Value.cells, h2, hn, hr]) (fun a ha => ha)
    (h _ (kt_put _ _ _) (put_same hb) (by simp))

theorem Stp.alloc {t : TypeId} {cs : Array Value} (hz : zc t = some cs) (hd : Nat.blt d X.N = true)
    (h : ∀ b w', b = w.heap.size → Kt No w w' → w'.heap[b]? = some (.cells cs t (0, 0)) → w'.heap.size = b + 1 → K ((d, .pointer (some ⟨b, 0, none⟩)) :: E) w') :
    Stp X ⟨some d, .alloc t, ty, pos, aft, g⟩ E w K Kp :=
  Stp.val (w' := w.alloc (.cells cs t (0, 0))) (v := .pointer (some ⟨w.heap.size, 0, none⟩)) (by intro c e; cases e) (fun a ha g => by
    obtain ⟨v, hv, rfl⟩ := run_zero hz w
    simp [execOp, Instr.alloc, hv, newVar, newRow, run_newObj_alloc]) (fun a ha => ha.put hd)
    (h _ _ rfl (kt_alloc _ _) (alloc_new _ _) (by simp))

theorem Stp.box {t : TypeId} {x : Operand} {v : Value} (hx : E.ev x = some v) (hd : Nat.blt d X.N = true)
    (h : ∀ b w', b = w.heap.size → Kt No w w' → w'.heap[b]? = some (.cells v.cells t (0, 0)) → w'.heap.size = b + 1 → K ((d, .pointer (some ⟨b, 0, none⟩)) :: E) w') :
    Stp X ⟨some d, .box t x, ty, pos, aft, g⟩ E w K Kp :=
  Stp.val (w' := w.alloc (.cells v.cells t (0, 0))) (v := .pointer (some ⟨w.heap.size, 0, none⟩)) (by intro c e; cases e) (fun a ha g => by
    simp [execOp, ha.ev hx, Instr.box, newVar, newRow, run_newObj_alloc]) (fun a ha => ha.put hd)
    (h _ _ rfl (kt_alloc _ _) (alloc_new _ _) (by simp))

theorem Stp.makeMap {t : TypeId} (hd : Nat.blt d X.N = true)
    (h : ∀ b w', b = w.heap.size → Kt No w w' → w'.heap[b]? = some (.map #[] 0) → w'.heap.size = b + 1 → K ((d, .map (some b)) :: E) w') :
    Stp X ⟨some d, .makeMap t none, ty, pos, aft, g⟩ E w K Kp :=
  Stp.val (w' := w.alloc (.map #[] 0)) (v := .map (some w.heap.size)) (by intro c e; cases e) (fun a ha g => by
    simp [execOp, Instr.makeMap, run_newObj_alloc]) (fun a ha => ha.put hd)
    (h _ _ rfl (kt_alloc _ _) (alloc_new _ _) (by simp))

/-- A value of a struct or array type, built of its parts; the run by the kernel. -/
theorem Ev.build {t : TypeId} {ps : Array (Nat × Operand)} {vs : List (Nat × Value)} {v : Value} (hx : E.evs (ps.toList.map (·.2)) = some (vs.map (·.2))) (hi : vs.map (·.1) = ps.toList.map (·.1))
    (hr : (Instr.build t vs.toArray).run P w = .ok v w) : Ev X (.build t ps) ty E w (v) w :=
  ⟨(by intro c e; cases e), fun a ha d pos aft g => by
    have h1 := ha.evs hx
    have e : (ps.map fun (i, x) => (i, a.eval x)) = vs.toArray := by
      apply Array.ext'
      simp only [Array.toList_map]
      apply List.ext_getElem?
      intro k
      have g1 := congrArg (·[k]?) h1
      have g2 := congrArg (·[k]?) hi
      simp only [List.getElem?_map, List.map_map] at g1 g2 ⊢
      cases hp : ps.toList[k]? with
      | none =>
        rw [hp] at g2
        cases hv : vs[k]? with
        | none => simp
        | some y => rw [hv] at g2; simp at g2
      | some x =>
        rw [hp] at g1 g2
        cases hv : vs[k]? with
        | none => rw [hv] at g2; simp at g2
        | some y =>
          rw [hv] at g1 g2
          simp at g1 g2
          simp [g1, ← g2]
    simp [execOp, e, hr]⟩

/-- A call of a Go function by its number. -/
theorem Stp.call {k : FuncId} {args : Array Operand} {ats : Array TypeId} {vs : List Value} {R : Ending → World → Prop} (hen : Enters P k) (hx : E.evs args.toList = some vs)
    (hc : Calls P k vs.toArray w R) (hd : Nat.blt d X.N = true)
    (h : ∀ v w', R (.returned v) w' → K ((d, v) :: E) w') (hp : ∀ c w', R (.panicked c) w' → Kp c w') (ho : ∀ w', ¬ R .outgrown w') :
    Stp X ⟨some d, .call { callee := .value (.func k), args := args, argTypes := ats }, ty, pos, aft, g⟩ E w K Kp :=
  Stp.enter (f := k) (args := vs.toArray) (w' := w) (E' := fun v => (d, v) :: E) (by intro c e; cases e) (fun a ha g => by
    have e : args.map a.eval = vs.toArray := Array.toList_inj.1 (by simpa using ha.evs hx)
    have he := hen vs.toArray w
    simp [execOp, resolve, Act.eval, Deferred.ofValue, invoke, e, he]) (by
      cases hro : X.ro with
      | none => exact callsIn_wide.2 hc
      | some l => exact CallsIn.inRound l (callsIn_wide.2 hc)) (fun a v ha => ha.put hd) h hp ho
end
end Go.Proofs.YtlcgeepjekcfgaaGreat
