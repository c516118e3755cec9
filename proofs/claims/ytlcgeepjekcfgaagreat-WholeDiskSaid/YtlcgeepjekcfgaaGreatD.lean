/- The rules of slices, strings, conversions and append, over the base. -/
import Derived.Test.YtlcgeepjekcfgaaGreatC
import Derived.Laws.Slices
import Derived.Laws.MakeOwn
import Derived.Lib.ConvBytes
import Derived.Laws.BytesArg
import Derived.Laws.OwnMore
namespace Go.Proofs.YtlcgeepjekcfgaaGreat
open Go.RowKit
set_option linter.unusedVariables false
set_option linter.unusedSimpArgs false

/-- What is known of an element type: its zero value, cells, bytes. -/
noncomputable def einf (e : TypeId) : Option (Value × Nat × Nat) := (P.info? e).bind fun i => i.zero.map fun z => (z, i.size, i.bytes)
theorem einf_spec {e : TypeId} {z : Value} {sz by_ : Nat} (h : einf e = some (z, sz, by_)) : ∃ i, P.info? e = some i ∧ i.zero = some z ∧ i.size = sz ∧ i.bytes = by_ := by
  unfold einf at h
  simp only [Option.bind_eq_some_iff, Option.map_eq_some_iff, Prod.mk.injEq] at h
  obtain ⟨i, hi, z', hz, rfl, rfl, rfl⟩ := h
  exact ⟨i, hi, hz, rfl, rfl⟩

/-- v is a slice of n elements of type e (sz cells each) whose cells are xs. -/
def Sl (w : World) (e sz : Nat) (v : Value) (n : Nat) (xs : List Value) : Prop :=
  xs.length = n * sz ∧ ∃ p cap, v = .slice p n cap ∧ n ≤ cap ∧ cap ≤ maxLen ∧
    (n = 0 ∨ ∃ b off cs fr, p = some ⟨b, off, none⟩ ∧ w.heap[b]? = some (.cells cs e fr) ∧ (cs.toList.drop off).take (n * sz) = xs)

/-- The block of a slice. -/
def slb (v : Value) : Option Nat := v.ownBlock

theorem Sl.of_own {w : World} {base e sz : Nat} {v : Value} {n : Nat} {xs : List Value} (h : w.ownsRow base e sz v n xs) : Sl w e sz v n xs := by
  refine ⟨h.1, ?_⟩
  rcases h.2 with ⟨rfl, rfl⟩ | ⟨g, cap, cur, rfl, _, hg, hn, hc, _, ht⟩
  · exact ⟨none, 0, rfl, Nat.le_refl _, Nat.zero_le _, .inl rfl⟩
  · exact ⟨_, cap, rfl, hn, hc, .inr ⟨g, 0, cur, _, rfl, hg, by simpa using ht⟩⟩

theorem Sl.kt {S : Nat → Prop} {w w' : World} {e sz : Nat} {v : Value} {n : Nat} {xs : List Value} (h : Sl w e sz v n xs) (hk : Kt S w w') (hn : ∀ k, v.ownBlock = some k → n ≠ 0 → ¬ S k) : Sl w' e sz v n xs := by
  obtain ⟨h1, p, cap, rfl, h2, h3, h4⟩ := h
  refine ⟨h1, p, cap, rfl, h2, h3, ?_⟩
  rcases h4 with h4 | ⟨b, off, cs, fr, rfl, hb, ht⟩
  · exact .inl h4
  · by_cases h0 : n = 0
    · exact .inl h0
    · exact .inr ⟨b, off, cs, fr, rfl, hk.at hb (hn b rfl h0), ht⟩
theorem Sl.kt0 {w w' : World} {e sz : Nat} {v : Value} {n : Nat} {xs : List Value} (h : Sl w e sz v n xs) (hk : Kt No w w') : Sl w' e sz v n xs := h.kt hk (fun _ _ _ => id)

theorem Sl.len {w : World} {e sz : Nat} {v : Value} {n : Nat} {xs : List Value} (h : Sl w e sz v n xs) : ∃ p cap, v = .slice p n cap ∧ n ≤ cap ∧ cap ≤ maxLen := by
  obtain ⟨_, p, cap, hv, h2, h3, _⟩ := h; exact ⟨p, cap, hv, h2, h3⟩

/-- Cell j. -/
theorem Sl.cell {w : World} {e sz : Nat} {p : Option Addr} {n cap : Nat} {xs : List Value} (h : Sl w e sz (.slice p n cap) n xs) {j : Nat} {u : Value} (hu : xs[j]? = some u) :
    ∃ b off, p = some ⟨b, off, none⟩ ∧ w.cell? ⟨b, off + j, none⟩ = some u := by
  obtain ⟨h1, p', cap', he, h2, h3, h4⟩ := h
  cases he
  rcases h4 with h4 | ⟨b, off, cs, fr, rfl, hb, ht⟩
  · subst h4
    have : xs = [] := List.eq_nil_of_length_eq_zero (by simpa using h1)
    subst this; simp at hu
  · refine ⟨b, off, rfl, cell_of hb ?_⟩
    subst ht
    rw [List.getElem?_take] at hu
    split at hu
    · simpa using hu
    · cases hu

theorem run_elem_sliced {t e : TypeId} (ht : P.underlying t = some (.slice e)) : P.underlying t = some (.slice (P.elem t)) := by
  have : P.elem t = e := by simp [Program.elem, ht]
  rw [this]; exact ht

/-- A cut of a slice, within its length. -/
theorem Sl.cut {w : World} {e sz : Nat} {p : Option Addr} {n cap : Nat} {xs : List Value} (h : Sl w e sz (.slice p n cap) n xs) (l m : Nat) (hl : l ≤ m) (hm : m ≤ n) :
    Sl w e sz (sliced p l m cap sz) (m - l) ((xs.drop (l * sz)).take ((m - l) * sz)) := by
  obtain ⟨h1, p', cap', he, h2, h3, h4⟩ := h
  cases he
  have hmul : m * sz ≤ n * sz := Nat.mul_le_mul_right _ hm
  have hsub : (m - l) * sz = m * sz - l * sz := Nat.sub_mul _ _ _
  refine ⟨?_, ?_⟩
  · rw [List.length_take, List.length_drop, h1]; omega
  · unfold sliced
    by_cases hcl : cap = l
    · refine ⟨p, cap - l, by rw [if_pos hcl], by omega, by omega, .inl (by omega)⟩
    · refine ⟨p.map (·.add (l * sz)), cap - l, by rw [if_neg hcl], by omega, by omega, ?_⟩
      rcases h4 with h4 | ⟨b, off, cs, fr, rfl, hb, ht⟩
      · exact .inl (by omega)
      · refine .inr ⟨b, off + l * sz, cs, fr, by simp [add_lit], hb, ?_⟩
        rw [← ht, List.drop_take, List.take_take, List.drop_drop]
        congr 1
        omega

theorem run_append_sl {w : World} {t e sz by_ : Nat} {ty : TypeId} {z : Value} (ht : P.underlying t = some (.slice e)) (hi : einf e = some (z, sz, by_)) (hz : z.cells.size = sz) (h0 : 0 < sz)
    {v : Value} {n : Nat} {xs : List Value} (hown : w.ownsRow 0 e sz v n xs) {s : Value} {m : Nat} {ys : List Value} (hs : Sl w e sz s m ys) (h1 : ∀ u ∈ ys, u.oneCell' = true) (hb : (n + m) * by_ ≤ 140737488355328) (hm : n + m ≤ 140737488355328) :
    ∃ v' w', (Builtin.append_ #[t, t] ty #[v, s]).run P w = .ok v' w' ∧ w'.ownsRow 0 e sz v' (n + m) (xs ++ ys) ∧ Kt (fun k => v.ownBlock = some k) w w' ∧ (∀ k, v'.ownBlock = some k → v.ownBlock = some k ∨ w.heap.size ≤ k) := by
  obtain ⟨i, i1, i2, i3, i4⟩ := einf_spec hi
  obtain ⟨g1, p, cap, rfl, g2, g3, g4⟩ := hs
  have back : ∀ {v' : Value} {w' : World}, w'.ownsRow 0 e sz v' (n + m) (xs ++ ys) → w.grownBy w' v.ownBlock → (∀ k, v'.ownBlock = some k → v.ownBlock = some k ∨ w.heap.size ≤ k) → True := fun _ _ _ => trivial
  cases p with
  | none =>
    have hm0 : m = 0 := by
      rcases g4 with g4 | ⟨_, _, _, _, hp, _⟩
      · exact g4
      · cases hp
    subst hm0
    have hy : ys = [] := List.eq_nil_of_length_eq_zero (by simpa using g1)
    subst hy
    rcases hown.2 with ⟨rfl, rfl⟩ | ⟨g, cp, cur, rfl, hb0, hg, hn, hcp, hcs, htk⟩
    · refine ⟨.slice none 0 0, w, ?_, by simpa using hown, Kt.refl _ _, fun k hk => .inl hk⟩
      simp [Builtin.append_, run_underlying ht, sizeOf, typeInfo, i1, Builtin.lenOf, Builtin.firstCells]
    · refine ⟨_, w, ?_, by simpa using hown, Kt.refl _ _, fun k hk => .inl hk⟩
      simp [Builtin.append_, run_underlying ht, sizeOf, typeInfo, i1, Builtin.lenOf, Builtin.firstCells, hn, storeCells]
  | some a =>
    have hnews : ∀ j u, ys[j]? = some u → w.cell? (a.add j) = some u := by
      intro j u hu
      rcases g4 with g4 | ⟨b, off, cs, fr, hp, hbk, htk⟩
      · subst g4
        have : ys = [] := List.eq_nil_of_length_eq_zero (by simpa using g1)
        subst this; simp at hu
      · cases hp
        rw [add_lit]
        refine cell_of hbk ?_
        subst htk
        rw [List.getElem?_take] at hu
        split at hu
        · simpa using hu
        · cases hu
    obtain ⟨v', w', hr, ho, hgb, _⟩ := run_append_own (P := P) w 0 t ty e i z sz by_ ht i1 i2 i3 i4 hz h0 v n xs hown a m cap ys g1 hnews h1 (by unfold maxLen; omega) hb (Nat.zero_le _)
    refine ⟨v', w', hr, ho, Kt.of_grown hgb |>.mono (fun i _ e => e), ?_⟩
    intro k hk
    by_cases hsame : v.ownBlock = some k
    · exact .inl hsame
    · right
      -- the row was made anew: else it lay in v's own block
      rcases Nat.lt_or_ge k w.heap.size with hlt | hge
      · exfalso
        -- the run tells which: room, or a new block
        rcases hown.2 with ⟨rfl, rfl⟩ | ⟨g, cp, cur, rfl, hb0, hg, hn, hcp, hcs, htk⟩
        · have hx : xs = [] := List.eq_nil_of_length_eq_zero (by simpa using hown.1)
          by_cases hm0 : m = 0
          · subst hm0
            have hy : ys = [] := List.eq_nil_of_length_eq_zero (by simpa using g1)
            subst hy
            have hr2 : (Builtin.append_ #[t, t] ty #[.slice none 0 0, .slice (some a) 0 cap]).run P w = .ok (.slice none 0 0) w := by
              simp [Builtin.append_, run_underlying ht, sizeOf, typeInfo, i1, Builtin.lenOf, Builtin.firstCells, loadCells, loadCellsFrom]
            rw [hr2] at hr
            cases hr
            simp [Value.ownBlock] at hk
          · have hr2 := run_append_nil (P := P) w t ty e i z ht i1 i2 a m cap ys (by rw [g1, i3]) hnews (by omega) (by omega) (by rw [i4]; have hb' := hb; simp only [Nat.zero_add] at hb'; omega)
            rw [hr2] at hr
            cases hr
            simp [Value.ownBlock] at hk
            omega
        · by_cases hroom : n + m ≤ cp
          · have hfit : n * i.size + ys.length ≤ cur.size := by rw [g1, hcs, i3, ← Nat.add_mul]; exact Nat.mul_le_mul_right _ hroom
            have hr2 := run_append_room (P := P) w t ty e i ht i1 g n cp cur hg a m cap ys (by rw [g1, i3]) hnews h1 hroom hfit
            rw [hr2] at hr
            cases hr
            exact hsame hk
          · have holds : ∀ j u, xs[j]? = some u → w.cell? ((⟨g, 0, none⟩ : Addr).add j) = some u := hown.cells (g := g) rfl
            have hr2 := run_append_grow (P := P) w t ty e i z ht i1 i2 ⟨g, 0, none⟩ n cp xs (by rw [hown.1, i3]) holds a m cap ys (by rw [g1, i3]) hnews (by omega) (by omega) (growslice_fits (by omega) (by rw [i4]; exact hb))
            rw [hr2] at hr
            cases hr
            simp [Value.ownBlock] at hk
            omega
      · exact hge

section
variable {X : Cx} {E : Env} {w : World} {d : Nat} {ty : TypeId} {pos : String} {aft : Array Edge} {g : Option (Nat × Bool)} {K : Env → World → Prop} {Kp : List PanicEntry → World → Prop}

/-- The address of element i. -/
theorem Ev.indexAddr {x i : Operand} {t e b off n cap sz : Nat} {k : IntKind} {j : Int} {m : Nat} (ht : P.underlying t = some (.slice e)) (hsz : (P.info? e).map (·.size) = some sz) (hx : E.ev x = some (.slice (some ⟨b, off, none⟩) n cap)) (hi : E.ev i = some (.int k j)) (h0 : 0 ≤ j ∧ j < n)
    (hm : off + j.toNat * sz = m) : Ev X (.indexAddr t x i) ty E w (.pointer (some ⟨b, m, none⟩)) w :=
  ⟨(by intro c e; cases e), fun a ha d pos aft g => by
    simp only [Option.map_eq_some_iff] at hsz
    obtain ⟨inf, hinf, rfl⟩ := hsz
    subst hm
    simp [execOp, ha.ev hx, ha.ev hi, Instr.indexAt, asIntOf, run_underlying ht, h0.1, h0.2, sizeOf, typeInfo, hinf, add_lit]⟩

/-- A cut of a slice: from .. to. -/
theorem Ev.cut {x : Operand} {lo hi : Option Operand} {t e sz n cap : Nat} {p : Option Addr} {l m : Nat} (ht : P.underlying t = some (.slice e)) (hsz : (P.info? e).map (·.size) = some sz) (hx : E.ev x = some (.slice p n cap))
    (hlo : (lo = none ∧ l = 0) ∨ ∃ o, lo = some o ∧ E.ev o = some (.int .i64 (l : Int))) (hhi : (hi = none ∧ m = n) ∨ ∃ o, hi = some o ∧ E.ev o = some (.int .i64 (m : Int))) (hlm : l ≤ m) (hmn : m ≤ cap) (hmn' : hi = none → l ≤ n) : Ev X (.slice t x lo hi none) ty E w (sliced p l m cap sz) w :=
  ⟨(by intro c e; cases e), fun a ha d pos aft g => by
    simp only [Option.map_eq_some_iff] at hsz
    obtain ⟨inf, hinf, rfl⟩ := hsz
    have hel : P.elem t = e := by simp [Program.elem, ht]
    have hse : (sizeOf (P.elem t)).run P w = .ok inf.size w := by rw [hel]; simp [sizeOf, typeInfo, hinf]
    have ht' := run_elem_sliced ht
    have ha2 : ∀ (lo' hi' : Option Value), (Instr.sliceAt t (.slice p n cap) lo' hi' none).run P w = (Instr.slice t (.slice p n cap) lo' hi' none).run P w := fun lo' hi' => by rw [run_sliceAt_slice (h := ht')]
    rcases hlo with ⟨rfl, rfl⟩ | ⟨ol, rfl, hol⟩ <;> rcases hhi with ⟨rfl, rfl⟩ | ⟨oh, rfl, hoh⟩
    · have := run_slice_all (P := P) (w := w) t p m cap ht'
      simp [execOp, ha.ev hx, ha2, this, hse]
    · have := run_slice_h (P := P) (w := w) t p n cap ht' .i64 (m : Int) (by omega) (by omega)
      simp [execOp, ha.ev hx, ha.ev hoh, ha2, this, hse]
    · have := run_slice_l (P := P) (w := w) t p m cap ht' .i64 (l : Int) (by omega) (by omega)
      simp [execOp, ha.ev hx, ha.ev hol, ha2, this, hse]
    · have := run_slice_lh (P := P) (w := w) t p n cap ht' .i64 .i64 (l : Int) (m : Int) (by omega) (by omega) (by omega)
      simp [execOp, ha.ev hx, ha.ev hol, ha.ev hoh, ha2, this, hse]⟩

theorem extract_list (s : Bs) (l m : Nat) : (⟨s.toArray⟩ : ByteArray).extract l m = ⟨((s.drop l).take (m - l)).toArray⟩ := by
  apply ByteArray.ext
  simp only [ByteArray.data_extract]
  apply Array.ext'
  simp [Array.toList_extract, List.extract_eq_take_drop]

/-- A cut of a string. -/
theorem Ev.scut {x : Operand} {lo hi : Option Operand} {t : Nat} {s : Bs} {l m : Nat} (ht : P.underlying t = some .string) (hx : E.ev x = some (str s))
    (hlo : (lo = none ∧ l = 0) ∨ ∃ o, lo = some o ∧ E.ev o = some (.int .i64 (l : Int))) (hhi : (hi = none ∧ m = s.length) ∨ ∃ o, hi = some o ∧ E.ev o = some (.int .i64 (m : Int))) (hlm : l ≤ m) (hmn : m ≤ s.length) : Ev X (.slice t x lo hi none) ty E w (str ((s.drop l).take (m - l))) w :=
  ⟨(by intro c e; cases e), fun a ha d pos aft g => by
    have ha2 : ∀ (lo' hi' : Option Value), (Instr.sliceAt t (str s) lo' hi' none).run P w = (Instr.slice t (str s) lo' hi' none).run P w := fun lo' hi' => by rw [run_sliceAt_string (h := ht)]
    have hs : (⟨s.toArray⟩ : ByteArray).size = s.length := bytes_size s
    have key : ∀ (lo' hi' : Option Value), (lo' = none ∧ l = 0 ∨ lo' = some (.int .i64 (l : Int))) → (hi' = none ∧ m = s.length ∨ hi' = some (.int .i64 (m : Int))) → (Instr.slice t (str s) lo' hi' none).run P w = .ok (str ((s.drop l).take (m - l))) w := by
      intro lo' hi' h1 h2
      have hb1 : (Instr.sliceBounds false s.length s.length lo' hi' none).run P w = .ok (l, m, s.length) w := by
        rcases h1 with ⟨rfl, rfl⟩ | rfl <;> rcases h2 with ⟨rfl, rfl⟩ | rfl <;>
          simp [Instr.sliceBounds, Instr.sliceBound, asIntOf, hlm, hmn]
        all_goals (try (have : (l : Int) ≤ (m : Int) := by omega)); all_goals (try simp [*]); all_goals omega
      simp [Instr.slice, str, run_underlying ht, hs, hb1, extract_list]
    have := key (lo.map a.eval) (hi.map a.eval) (by
      rcases hlo with ⟨rfl, rfl⟩ | ⟨ol, rfl, hol⟩
      · exact .inl ⟨rfl, rfl⟩
      · exact .inr (by simp [ha.ev hol])) (by
      rcases hhi with ⟨rfl, rfl⟩ | ⟨oh, rfl, hoh⟩
      · exact .inl ⟨rfl, rfl⟩
      · exact .inr (by simp [ha.ev hoh]))
    simp [execOp, ha.ev hx, ha2, this]⟩

/-- A byte of a string. -/
theorem Ev.sindex {x i : Operand} {t : Nat} {s : Bs} {k : IntKind} {j : Int} {c : UInt8} (ht : P.underlying t = some .string) (hx : E.ev x = some (str s)) (hi : E.ev i = some (.int k j)) (h0 : 0 ≤ j) (hc : s[j.toNat]? = some c) : Ev X (.index t x i) ty E w (.int .u8 (c.toNat : Int)) w :=
  ⟨(by intro c e; cases e), fun a ha d pos aft g => by
    obtain ⟨hlt, hcc⟩ := List.getElem?_eq_some_iff.1 hc
    have hs : (⟨s.toArray⟩ : ByteArray).size = s.length := bytes_size s
    have hl : 0 ≤ j ∧ j < (⟨s.toArray⟩ : ByteArray).size := ⟨h0, by rw [hs]; omega⟩
    have := run_index_string (P := P) (w := w) t ⟨s.toArray⟩ k j ht
    rw [dif_pos hl] at this
    have hg : (⟨s.toArray⟩ : ByteArray)[j.toNat]'(by omega) = c := by rw [← hcc]; rfl
    simp [execOp, ha.ev hx, ha.ev hi, str, this, hg]⟩

/-- []byte of a string. -/
theorem Stp.toBytes {x : Operand} {t e s' : Nat} {s : Bs} {u : TypeDesc} (hs : P.underlying s' = some u) (ht : P.underlying t = some (.slice e)) (he : P.underlying e = some (.int .u8)) (hx : E.ev x = some (str s)) (hn : s.length ≤ 140737488355328) (hd : Nat.blt d X.N = true)
    (h : ∀ b cap w', b = w.heap.size → Kt No w w' → Sl w' e 1 (.slice (some ⟨b, 0, none⟩) s.length cap) s.length (s.map fun c => .int .u8 (c.toNat : Int)) → K ((d, .slice (some ⟨b, 0, none⟩) s.length cap) :: E) w') :
    Stp X ⟨some d, .convert s' t x, ty, pos, aft, g⟩ E w K Kp :=
  Stp.val (v := .slice (some ⟨w.heap.size, 0, none⟩) s.length (grownCap w s.length 0 e)) (w' := Lib.bytesWorld w e ⟨s.toArray⟩) (by intro c e; cases e) (fun a ha g => by
    have := Lib.run_convert_string_bytes (P := P) w s' t e ⟨s.toArray⟩ hs ht he
    rw [bytes_size] at this
    simp [execOp, ha.ev hx, str, this]) (fun a ha => ha.put hd)
    (h _ _ _ rfl ⟨by simp [Lib.bytesWorld, World.freeze, World.alloc, World.drew, -World.alloc_eq, -World.drew_eq], by simp [Lib.bytesWorld, World.freeze, World.alloc, World.drew, -World.alloc_eq, -World.drew_eq], by simp [Lib.bytesWorld, World.freeze, World.alloc, World.drew, -World.alloc_eq, -World.drew_eq], by simp [Lib.bytesWorld_size], fun k hk _ => Lib.bytesWorld_at_old w e _ k hk⟩
      ⟨by simp, _, _, rfl, grownCap_ge w _ _ _, grownCap_le_maxLen w _ _ _ (by unfold maxLen; omega), .inr ⟨_, _, _, _, rfl, Lib.bytesWorld_at_new w e ⟨s.toArray⟩, by simp [Lib.bytesCells, bytes_size]⟩⟩)

/-- The string of bytes. -/
theorem Ev.ofBytes {x : Operand} {t e s' n : Nat} {v : Value} {s : Bs} (hs : P.underlying s' = some (.slice e)) (he : P.underlying e = some (.int .u8)) (ht : P.underlying t = some .string) (hx : E.ev x = some v) (hv : Sl w e 1 v n (s.map fun c => .int .u8 (c.toNat : Int))) : Ev X (.convert s' t x) ty E w (str s) w :=
  ⟨(by intro c e; cases e), fun a ha d pos aft g => by
    obtain ⟨h1, p, cap, rfl, h2, h3, h4⟩ := hv
    have hl : s.length = n := by simpa using h1
    have hrun : (convert s' t (.slice p n cap)).run P w = .ok (str s) w := by
      cases p with
      | none =>
        have hn : n = 0 := by
          rcases h4 with h4 | ⟨_, _, _, _, hp, _⟩
          · exact h4
          · cases hp
        have : s = [] := List.eq_nil_of_length_eq_zero (by omega)
        subst this
        have := run_convert_bytes_nil (P := P) w s' e hs he n cap t ht
        rw [this]; rfl
      | some ad =>
        rw [run_convert_bytes_string w s' t e _ n cap hs he ht, run_bytesToString w ad n cap (s.map fun c => (c.toNat : Int)), foldl_push_bytes]
        · simp only [List.map_map]
          have : (fun n : Int => UInt8.ofNat n.toNat) ∘ (fun c : UInt8 => (c.toNat : Int)) = id := by funext c; simp
          rw [this]
          simp [str, ByteArray.empty, ByteArray.emptyWithCapacity]
          rfl
        · have hl2 := run_loadCellsFrom w ad (s.map fun c => .int .u8 (c.toNat : Int)) 0 #[] (fun j u hu => by
            rcases h4 with h4 | ⟨b, off, cs, fr, hp, hb, htk⟩
            · have : s = [] := List.eq_nil_of_length_eq_zero (by omega)
              subst this; simp at hu
            · cases hp
              rw [add_lit]
              refine cell_of hb ?_
              rw [← htk] at hu
              rw [List.getElem?_take] at hu
              split at hu
              · simpa using hu
              · cases hu)
          simp only [List.length_map, hl] at hl2
          rw [loadCells, hl2]
          simp [List.map_map, Function.comp_def]
    simp [execOp, ha.ev hx, hrun]⟩

/-- append of a slice. -/
theorem Stp.append {x y : Operand} {t e sz by_ : Nat} {z v s : Value} {n m : Nat} {xs ys : List Value} (ht : P.underlying t = some (.slice e)) (hi : einf e = some (z, sz, by_)) (hz : z.cells.size = sz) (h0 : 0 < sz)
    (hx : E.ev x = some v) (hy : E.ev y = some s) (hown : w.ownsRow 0 e sz v n xs) (hs : Sl w e sz s m ys) (h1 : ∀ u ∈ ys, u.oneCell' = true) (hb : (n + m) * by_ ≤ 140737488355328) (hm : n + m ≤ 140737488355328) (hd : Nat.blt d X.N = true)
    (h : ∀ v' w', w'.ownsRow 0 e sz v' (n + m) (xs ++ ys) → Kt (fun k => v.ownBlock = some k) w w' → (∀ k, v'.ownBlock = some k → v.ownBlock = some k ∨ w.heap.size ≤ k) → K ((d, v') :: E) w') :
    Stp X ⟨some d, .call { callee := .builtin .append, args := #[x, y], argTypes := #[t, t] }, ty, pos, aft, g⟩ E w K Kp := by
  obtain ⟨v', w', hr, ho, hk, hn⟩ := run_append_sl (ty := ty) ht hi hz h0 hown hs h1 hb hm
  exact Stp.val (v := v') (w' := w') (by intro c e; cases e) (fun a ha g => by simp [execOp, ha.ev hx, ha.ev hy, resolve, invoke, builtin, hr]) (fun a ha => ha.put hd) (h v' w' ho hk hn)

/-- A slice of one element, written out. -/
theorem Stp.bslice1 {x : Operand} {t e sz by_ : Nat} {z v : Value} (ht : P.underlying t = some (.slice e)) (hi : einf e = some (z, sz, by_)) (hz : z.cells.size = sz) (h0 : 0 < sz) (hsm : sz ≤ 16777216) (hx : E.ev x = some v) (hv : v.cells.size = sz) (hd : Nat.blt d X.N = true)
    (h : ∀ b w', b = w.heap.size → Kt No w w' → Sl w' e sz (.slice (some ⟨b, 0, none⟩) 1 1) 1 v.cells.toList → w'.heap.size = b + 1 → K ((d, .slice (some ⟨b, 0, none⟩) 1 1) :: E) w') :
    Stp X ⟨some d, .buildSlice t 1 #[(0, x)], ty, pos, aft, g⟩ E w K Kp := by
  obtain ⟨i, i1, i2, i3, i4⟩ := einf_spec hi
  refine Stp.val (v := .slice (some ⟨w.heap.size, 0, none⟩) 1 1) (w' := w.alloc (.cells v.cells e)) (by intro c e; cases e) (fun a ha g => ?_) (fun a ha => ha.put hd)
    (h _ _ rfl (kt_alloc _ _) ⟨by simp [hv], _, 1, rfl, Nat.le_refl _, by unfold maxLen; omega, .inr ⟨_, 0, _, _, rfl, alloc_new _ _, by simp; exact List.take_of_length_le (by simp [hv])⟩⟩ (by simp))
  have hne : ¬ (i.size = 0) := by omega
  have hfill : ∀ (cs : Array Value), cs.size = sz → ((v.cells.zipIdx.foldl (fun cs (c, j) => cs.setIfInBounds j c) cs)) = v.cells := by
    intro cs hcs
    have key : ∀ (l : List Value) (k : Nat) (cs : Array Value), ((l.zipIdx k).foldl (fun cs p => cs.setIfInBounds p.2 p.1) cs).toList = if k + l.length ≤ cs.size then cs.toList.take k ++ l ++ cs.toList.drop (k + l.length) else ((l.zipIdx k).foldl (fun cs p => cs.setIfInBounds p.2 p.1) cs).toList := by
      intro l
      induction l with
      | nil => intro k cs; simp
      | cons y l ih =>
        intro k cs
        split
        · rename_i hle
          simp only [List.length_cons] at hle
          simp only [List.zipIdx_cons, List.foldl_cons]
          rw [ih (k + 1) (cs.setIfInBounds k y), if_pos (by simp; omega)]
          simp only [Array.toList_setIfInBounds, List.length_cons]
          have hk : k < cs.toList.length := by simp; omega
          have e1 : (cs.toList.set k y).take (k + 1) = cs.toList.take k ++ [y] := by
            apply List.ext_getElem?
            intro n
            simp only [List.getElem?_take, List.getElem?_append, List.getElem?_set, List.length_take]
            have hmn : min k cs.toList.length = k := by omega
            rw [hmn]
            by_cases h1 : n < k
            · have : ¬ k = n := by omega
              simp [h1, this]; omega
            · by_cases h2 : n = k
              · subst h2; simp [hk]; simpa using hk
              · have h3 : ¬ n < k + 1 := by omega
                have h4 : n - k ≠ 0 := by omega
                simp [h1, h3, h4]
          have e2 : (cs.toList.set k y).drop (k + 1 + l.length) = cs.toList.drop (k + (l.length + 1)) := by
            rw [List.drop_set_of_lt (by omega), show k + 1 + l.length = k + (l.length + 1) from by omega]
          rw [e1, e2]
          simp
        · rfl
    apply Array.ext'
    have := key v.cells.toList 0 cs
    rw [if_pos (by simp; omega)] at this
    rw [← Array.foldl_toList]
    simp only [Array.toList_zipIdx]
    have e2 : (fun (cs : Array Value) (x : Value × Nat) => match x with | (c, j) => cs.setIfInBounds j c) = fun cs p => cs.setIfInBounds p.2 p.1 := by funext cs p; rfl
    rw [e2, this]
    simp
    omega
  have hsz1 : ¬ (16777216 < i.size) := by omega
  have hmk : ((Array.range i.size).map fun k => z.cells[k % z.cells.size]!).size = sz := by simp [i3]
  have hf2 := hfill _ hmk
  simp [execOp, Instr.buildSlice, run_underlying ht, sizeOf, typeInfo, i1, hsz1, hne, zeroValue, i2, Instr.fill, ha.ev hx, hv, i3, newRow, run_newObj_alloc]
  rw [i3] at hf2
  have hf3 : Array.foldl (fun (cs : Array Value) (x : Value × Nat) => cs.setIfInBounds x.snd x.fst) ((Array.range sz).map fun k => z.cells[k % z.cells.size]!) v.cells.zipIdx 0 v.cells.zipIdx.size = v.cells := hf2
  rw [Array.size_zipIdx, hv] at hf3
  rw [if_neg (by omega), if_neg (by omega), hf3]
end
end Go.Proofs.YtlcgeepjekcfgaaGreat
