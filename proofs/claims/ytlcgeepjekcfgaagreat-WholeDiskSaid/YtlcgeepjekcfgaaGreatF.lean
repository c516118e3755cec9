/- Maps: what a map block holds, as a list of keys and values; look-up, update, delete, length, a range over it. -/
import Derived.Test.YtlcgeepjekcfgaaGreatE
namespace Go.Proofs.YtlcgeepjekcfgaaGreat
open Go.RowKit
set_option linter.unusedVariables false
set_option linter.unusedSimpArgs false

section plain
variable {κ V : Type} [DecidableEq κ]
def mget : List (κ × V) → κ → Option V
  | [], _ => none
  | (a, v) :: r, k => if k = a then some v else mget r k
def mset : List (κ × V) → κ → V → List (κ × V)
  | [], k, v => [(k, v)]
  | (a, u) :: r, k, v => if k = a then (a, v) :: r else (a, u) :: mset r k v
def mdel : List (κ × V) → κ → List (κ × V)
  | [], _ => []
  | (a, u) :: r, k => if k = a then r else (a, u) :: mdel r k
/-- where a key is. -/
def midx : List (κ × V) → κ → Nat → Option (Nat × V)
  | [], _, _ => none
  | (a, v) :: r, k, i => if k = a then some (i, v) else midx r k (i + 1)

theorem midx_mget (m : List (κ × V)) (k : κ) : ∀ i, (midx m k i).map (·.2) = mget m k := by
  induction m with
  | nil => intro i; rfl
  | cons x r ih => intro i; obtain ⟨a, v⟩ := x; simp only [midx, mget]; split <;> simp [ih]
theorem mset_keys (m : List (κ × V)) (k : κ) (v : V) : (mset m k v).map (·.1) = if (mget m k).isSome then m.map (·.1) else m.map (·.1) ++ [k] := by
  induction m with
  | nil => simp [mset, mget]
  | cons x r ih =>
    obtain ⟨a, u⟩ := x
    simp only [mset, mget]
    split
    · simp
    · simp only [List.map_cons, ih]; split <;> simp
theorem mget_none_iff (m : List (κ × V)) (k : κ) : mget m k = none ↔ k ∉ m.map (·.1) := by
  induction m with
  | nil => simp [mget]
  | cons x r ih => obtain ⟨a, u⟩ := x; simp only [mget, List.map_cons, List.mem_cons]; split <;> simp_all
theorem mset_nodup {m : List (κ × V)} (h : (m.map (·.1)).Nodup) (k : κ) (v : V) : ((mset m k v).map (·.1)).Nodup := by
  rw [mset_keys]
  split
  · exact h
  · rename_i hn
    have : mget m k = none := by simpa using hn
    rw [mget_none_iff] at this
    rw [List.nodup_append]
    exact ⟨h, by simp, fun a ha b hb => by simp at hb; subst hb; exact fun e => this (e ▸ ha)⟩
theorem mdel_sub (m : List (κ × V)) (k : κ) : (mdel m k).Sublist m := by
  induction m with
  | nil => exact List.Sublist.refl _
  | cons x r ih => obtain ⟨a, u⟩ := x; simp only [mdel]; split
                   · exact List.sublist_cons_self _ _
                   · exact ih.cons_cons _
theorem mdel_nodup {m : List (κ × V)} (h : (m.map (·.1)).Nodup) (k : κ) : ((mdel m k).map (·.1)).Nodup := ((mdel_sub m k).map _).nodup h
theorem mget_mset (m : List (κ × V)) (k : κ) (v : V) (j : κ) : mget (mset m k v) j = if j = k then some v else mget m j := by
  induction m with
  | nil => simp only [mset, mget]
  | cons x r ih =>
    obtain ⟨a, u⟩ := x
    simp only [mset]
    split
    · rename_i h; subst h; simp only [mget]; split <;> simp_all
    · rename_i h
      simp only [mget, ih]
      by_cases h1 : j = a
      · subst h1; have : ¬ j = k := fun e => h e.symm; simp [this]
      · simp [h1]
theorem mget_mdel {m : List (κ × V)} (hn : (m.map (·.1)).Nodup) (k j : κ) : mget (mdel m k) j = if j = k then none else mget m j := by
  induction m with
  | nil => simp [mdel, mget]
  | cons x r ih =>
    obtain ⟨a, u⟩ := x
    simp only [List.map_cons, List.nodup_cons] at hn
    simp only [mdel]
    split
    · rename_i h
      subst h
      by_cases h1 : j = k
      · subst h1; simp [(mget_none_iff r j).2 hn.1]
      · simp [mget, h1]
    · rename_i h
      simp only [mget, ih hn.2]
      by_cases h1 : j = a
      · subst h1; have : ¬ j = k := fun e => h e.symm; simp [this]
      · simp [h1]
theorem mget_mem {m : List (κ × V)} (hn : (m.map (·.1)).Nodup) (k : κ) (v : V) : mget m k = some v ↔ (k, v) ∈ m := by
  induction m with
  | nil => simp [mget]
  | cons x r ih =>
    obtain ⟨a, u⟩ := x
    simp only [List.map_cons, List.nodup_cons] at hn
    simp only [mget, List.mem_cons, Prod.mk.injEq]
    split
    · rename_i h; subst h
      constructor
      · intro h; cases h; exact .inl ⟨rfl, rfl⟩
      · rintro (⟨_, rfl⟩ | h)
        · rfl
        · exact absurd (List.mem_map.2 ⟨_, h, rfl⟩) hn.1
    · rename_i h
      rw [ih hn.2]
      constructor
      · exact .inr
      · rintro (⟨e, _⟩ | h')
        · exact absurd e h
        · exact h'
theorem mget_perm {m m' : List (κ × V)} (hn : (m.map (·.1)).Nodup) (hp : m.Perm m') (k : κ) : mget m k = mget m' k := by
  have hn' : (m'.map (·.1)).Nodup := (hp.map _).nodup_iff.1 hn
  apply Option.ext
  intro v
  rw [mget_mem hn, mget_mem hn', hp.mem_iff]
theorem mset_length (m : List (κ × V)) (k : κ) (v : V) : (mset m k v).length = if (mget m k).isSome then m.length else m.length + 1 := by
  have := congrArg List.length (mset_keys m k v)
  simp only [List.length_map] at this
  rw [this]; split <;> simp
theorem mget_map {V' : Type} (f : V → V') (m : List (κ × V)) (k : κ) : mget (m.map fun p => (p.1, f p.2)) k = (mget m k).map f := by
  induction m with
  | nil => rfl
  | cons x r ih => obtain ⟨a, u⟩ := x; simp only [List.map_cons, mget, ih]; split <;> rfl
theorem mset_map {V' : Type} (f : V → V') (m : List (κ × V)) (k : κ) (v : V) : mset (m.map fun p => (p.1, f p.2)) k (f v) = (mset m k v).map fun p => (p.1, f p.2) := by
  induction m with
  | nil => rfl
  | cons x r ih => obtain ⟨a, u⟩ := x; simp only [List.map_cons, mset, ih]; split <;> rfl
theorem mdel_map {V' : Type} (f : V → V') (m : List (κ × V)) (k : κ) : mdel (m.map fun p => (p.1, f p.2)) k = (mdel m k).map fun p => (p.1, f p.2) := by
  induction m with
  | nil => rfl
  | cons x r ih => obtain ⟨a, u⟩ := x; simp only [List.map_cons, mdel, ih]; split <;> rfl
end plain

/-- How keys of a type are told apart. -/
structure KeyOK {κ : Type} [DecidableEq κ] (kd : TypeDesc) (enc : κ → Value) : Prop where
  same : ∀ a b, Instr.sameNow kd (enc a) (enc b) = some (decide (a = b))
  bits : ∀ a, Instr.sameBits 10000 (enc a) (enc a) = true
  plain : (kd = .string ∨ ∃ k, kd = .int k)

theorem bytes_eq_iff (a b : Bs) : ((⟨a.toArray⟩ : ByteArray) == ⟨b.toArray⟩) = decide (a = b) := by
  show (a.toArray == b.toArray) = _
  rw [Bool.eq_iff_iff]; simp
theorem keyStr : KeyOK .string str := ⟨fun a b => by simp [Instr.sameNow, str, bytes_eq_iff], fun a => by simp [str, Instr.sameBits, bytes_eq_iff], .inl rfl⟩
def i64v (n : Int) : Value := .int .i64 n
theorem keyInt (k : IntKind) : KeyOK (.int k) i64v := ⟨fun a b => by simp [Instr.sameNow, i64v]; rfl, fun a => by simp [i64v, Instr.sameBits], .inr ⟨k, rfl⟩⟩

section
variable {κ : Type} {enc : κ → Value}

/-- Block b is a map that holds m. -/
def MapR (enc : κ → Value) (w : World) (b : Nat) (m : List (κ × Value)) : Prop :=
  ∃ es clock, w.heap[b]? = some (.map es clock) ∧ es.toList.map (fun e => (e.key, e.val)) = m.map (fun p => (enc p.1, p.2)) ∧ (m.map (·.1)).Nodup ∧ (es.toList.map (·.born)).Nodup ∧ ∀ e ∈ es.toList, e.born < clock

theorem MapR.kt {S : Nat → Prop} {w w' : World} {b : Nat} {m : List (κ × Value)} (h : MapR enc w b m) (hk : Kt S w w') (hn : ¬ S b) : MapR enc w' b m := by
  obtain ⟨es, clock, h1, h2⟩ := h
  exact ⟨es, clock, hk.at h1 hn, h2⟩
theorem MapR.kt0 {w w' : World} {b : Nat} {m : List (κ × Value)} (h : MapR enc w b m) (hk : Kt No w w') : MapR enc w' b m := h.kt hk id
theorem MapR.lt {w : World} {b : Nat} {m : List (κ × Value)} (h : MapR enc w b m) : b < w.heap.size := by obtain ⟨es, clock, h1, _⟩ := h; exact blk_lt h1
theorem MapR.nodup {w : World} {b : Nat} {m : List (κ × Value)} (h : MapR enc w b m) : (m.map (·.1)).Nodup := by obtain ⟨es, clock, _, _, h3, _⟩ := h; exact h3
theorem MapR.empty {w : World} {b : Nat} {c : Nat} (h : w.heap[b]? = some (.map #[] c)) : MapR enc w b [] := ⟨#[], c, h, by simp, by simp, by simp, by simp⟩
theorem MapR.ne_cells {w : World} {b c : Nat} {m : List (κ × Value)} {cs : Array Value} {t : TypeId} {fr : Nat × Nat} (h : MapR enc w b m) (hc : w.heap[c]? = some (.cells cs t fr)) : b ≠ c := by
  rintro rfl
  obtain ⟨es, clock, h1, _⟩ := h
  rw [h1] at hc; cases hc

end

section
variable {κ : Type} [DecidableEq κ] {enc : κ → Value} {kd : TypeDesc}

theorem run_checkKey (hk : KeyOK kd enc) {t : TypeId} (ht : P.underlying t = some kd) (e : Bool) (k : κ) (w : World) : (Instr.checkKey e 10000 t (enc k)).run P w = .ok () w := by
  unfold Instr.checkKey
  rcases hk.plain with rfl | ⟨j, rfl⟩ <;> simp [run_underlying ht]

theorem findNow_eq (hk : KeyOK kd enc) (k : κ) : ∀ (es : List MapEntry) (m : List (κ × Value)) (i : Nat), es.map (fun e => (e.key, e.val)) = m.map (fun p => (enc p.1, p.2)) → Instr.findNow kd (enc k) es i = some (midx m k i) := by
  intro es
  induction es with
  | nil => intro m i h; cases m with
    | nil => rfl
    | cons _ _ => simp at h
  | cons e es ih =>
    intro m i h
    cases m with
    | nil => simp at h
    | cons x r =>
      obtain ⟨a, v⟩ := x
      simp only [List.map_cons, List.cons.injEq, Prod.mk.injEq] at h
      obtain ⟨⟨h1, h2⟩, h3⟩ := h
      have hs := hk.same k a
      rw [← h1] at hs
      simp only [Instr.findNow, midx]
      rw [hs]
      by_cases hka : k = a
      · subst hka; simp [h2]
      · simp [hka, ih r (i + 1) h3]

theorem run_findKey (hk : KeyOK kd enc) {t : TypeId} (ht : P.underlying t = some kd) (k : κ) {es : List MapEntry} {m : List (κ × Value)} (h : es.map (fun e => (e.key, e.val)) = m.map (fun p => (enc p.1, p.2))) (w : World) :
    (Instr.findKey t (enc k) es).run P w = .ok (midx m k 0) w := by
  simp [Instr.findKey, run_underlying ht, findNow_eq hk k es m 0 h]

theorem upd_list (f : κ → Value) (k : κ) (v : Value) : ∀ (es : List MapEntry) (m : List (κ × Value)) (i j : Nat) (u : Value), es.map (fun e => (e.key, e.val)) = m.map (fun p => (f p.1, p.2)) → midx m k i = some (i + j, u) →
    (es.modify j fun e => { e with key := f k, val := v }).map (fun e => (e.key, e.val)) = (mset m k v).map (fun p => (f p.1, p.2)) ∧ (es.modify j fun e => { e with key := f k, val := v }).map (·.born) = es.map (·.born) := by
  intro es
  induction es with
  | nil => intro m i j u h hi; cases m with
    | nil => simp [midx] at hi
    | cons _ _ => simp at h
  | cons e es ih =>
    intro m i j u h hi
    cases m with
    | nil => simp at h
    | cons x r =>
      obtain ⟨a, v0⟩ := x
      simp only [List.map_cons, List.cons.injEq] at h
      simp only [midx] at hi
      by_cases hka : k = a
      · subst hka
        simp at hi
        obtain ⟨hj, _⟩ := hi
        subst hj
        simp [mset, h.2]
      · simp only [hka, if_false] at hi
        cases j with
        | zero =>
          exfalso
          have key : ∀ (m : List (κ × Value)) (i n : Nat) (u : Value), midx m k i = some (n, u) → i ≤ n := by
            intro m
            induction m with
            | nil => intro i n u h; simp [midx] at h
            | cons x r ih => intro i n u h; obtain ⟨b, z⟩ := x; simp only [midx] at h; split at h
                             · simp at h; omega
                             · have := ih _ _ _ h; omega
          have := key _ _ _ _ hi
          omega
        | succ j =>
          have := ih r (i + 1) j u h.2 (by rw [hi, show i + (j + 1) = i + 1 + j from by omega])
          simp only [List.modify_succ_cons, List.map_cons, mset, hka, if_false, this.1, this.2]
          exact ⟨by rw [h.1], trivial⟩

theorem mset_none {m : List (κ × Value)} {k : κ} (v : Value) (h : midx m k 0 = none) : mset m k v = m ++ [(k, v)] := by
  have : mget m k = none := by rw [← midx_mget m k 0, h]; rfl
  clear h
  induction m with
  | nil => rfl
  | cons x r ih =>
    obtain ⟨a, u⟩ := x
    simp only [mget] at this
    split at this
    · cases this
    · rename_i hka
      simp [mset, hka, ih this]

theorem run_mapUpdate (hk : KeyOK kd enc) {t key elem : TypeId} (ht : P.underlying t = some (.map key elem)) (hkey : P.underlying key = some kd) {w : World} {b : Nat} {m : List (κ × Value)} (h : MapR enc w b m) (k : κ) (v : Value) :
    ∃ w', (Instr.mapUpdate t (.map (some b)) (enc k) v).run P w = .ok () w' ∧ Kt (fun i => i = b) w w' ∧ MapR enc w' b (mset m k v) ∧ w'.heap.size = w.heap.size := by
  obtain ⟨es, clock, h1, h2, h3, h4, h5⟩ := h
  have hf := run_findKey hk hkey k h2 w
  have hc := run_checkKey hk hkey false k w
  have hget : (getObj b).run P w = .ok (.map es clock) w := by simp [getObj, Sem.run, h1]
  have hset : ∀ o, (setObj b o).run P w = .ok () (w.putObj b o) := fun o => by simp [setObj, Sem.run, h1, World.putObj]
  cases hi : midx m k 0 with
  | none =>
    refine ⟨w.putObj b (.map (es.push { key := enc k, val := v, born := clock }) (clock + 1)), ?_, kt_put _ _ _, ⟨_, _, put_same h1, ?_, mset_nodup h3 k v, ?_, ?_⟩, by simp⟩
    · simp [Instr.mapUpdate, run_underlying ht, hget, hc, hf, hi, hset]
    · rw [mset_none v hi]; simp [h2]
    · simp only [Array.toList_push, List.map_append, List.map_cons, List.map_nil]
      rw [List.nodup_append]
      refine ⟨h4, by simp, fun a ha c hc => ?_⟩
      simp at hc; subst hc
      obtain ⟨e, he, rfl⟩ := List.mem_map.1 ha
      have := h5 e he; omega
    · intro e he
      simp at he
      rcases he with he | rfl
      · have := h5 e (by simpa using he); omega
      · simp
  | some p =>
    obtain ⟨i, u⟩ := p
    have hu := upd_list enc k v es.toList m 0 i u h2 (by rw [hi]; simp)
    have hold : ((es[i]?).map (·.key)).getD (enc k) = enc k := by
      have key : ∀ (es : List MapEntry) (m : List (κ × Value)) (n j : Nat), es.map (fun e => (e.key, e.val)) = m.map (fun p => (enc p.1, p.2)) → midx m k n = some (n + j, u) → (es[j]?.map (·.key)) = some (enc k) := by
        intro es
        induction es with
        | nil => intro m n j h hi; cases m with
          | nil => simp [midx] at hi
          | cons _ _ => simp at h
        | cons e es ih =>
          intro m n j h hi
          cases m with
          | nil => simp at h
          | cons x r =>
            obtain ⟨a, v0⟩ := x
            simp only [List.map_cons, List.cons.injEq, Prod.mk.injEq] at h
            simp only [midx] at hi
            by_cases hka : k = a
            · subst hka; simp at hi; obtain ⟨hj, _⟩ := hi; subst hj; simp [h.1.1]
            · simp only [hka, if_false] at hi
              cases j with
              | zero =>
                exfalso
                have key2 : ∀ (m : List (κ × Value)) (i n : Nat) (u : Value), midx m k i = some (n, u) → i ≤ n := by
                  intro m
                  induction m with
                  | nil => intro i n u h; simp [midx] at h
                  | cons x r ih => intro i n u h; obtain ⟨b, z⟩ := x; simp only [midx] at h; split at h
                                   · simp at h; omega
                                   · have := ih _ _ _ h; omega
                have := key2 _ _ _ _ hi
                omega
              | succ j => simpa using ih r (n + 1) j h.2 (by rw [hi, show n + (j + 1) = n + 1 + j from by omega])
      have := key es.toList m 0 i h2 (by rw [hi]; simp)
      simp only [Array.getElem?_toList] at this
      rw [this]; rfl
    refine ⟨w.putObj b (.map (es.modify i fun e => { e with key := enc k, val := v }) clock), ?_, kt_put _ _ _, ⟨_, _, put_same h1, ?_, mset_nodup h3 k v, ?_, ?_⟩, by simp⟩
    · have hks : (Instr.keyThatStays (enc k) (enc k)).run P w = .ok (enc k) w := by show Sem.run P (if Instr.sameBits 10000 (enc k) (enc k) then pure (enc k) else _) w = _; rw [if_pos (hk.bits k)]; rfl
      simp [Instr.mapUpdate, run_underlying ht, hget, hc, hf, hi, hold, hks, hset]
    · simpa [Array.toList_modify] using hu.1
    · simpa [Array.toList_modify, hu.2] using h4
    · intro e he
      have hb : e.born ∈ (es.modify i fun e => { e with key := enc k, val := v }).toList.map (·.born) := List.mem_map.2 ⟨e, he, rfl⟩
      rw [Array.toList_modify, hu.2] at hb
      obtain ⟨e', he', hbe⟩ := List.mem_map.1 hb
      rw [← hbe]; exact h5 e' he'

theorem run_lookup (hk : KeyOK kd enc) {t key elem : TypeId} (ht : P.underlying t = some (.map key elem)) (hkey : P.underlying key = some kd) {w : World} {b : Nat} {m : List (κ × Value)} (h : MapR enc w b m) (k : κ) {z : Value} (hz : (P.info? elem).bind (·.zero) = some z) (ok : Bool) :
    (Instr.lookup t (.map (some b)) (enc k) ok).run P w = .ok (if ok then .tuple #[(mget m k).getD z, .bool (mget m k).isSome] else (mget m k).getD z) w := by
  obtain ⟨es, clock, h1, h2, h3, h4, h5⟩ := h
  have hf := run_findKey hk hkey k h2 w
  have hc := run_checkKey hk hkey es.isEmpty k w
  have hget : (getObj b).run P w = .ok (.map es clock) w := by simp [getObj, Sem.run, h1]
  have hzr : (zeroValue elem).run P w = .ok z w := by
    simp only [Option.bind_eq_some_iff] at hz
    obtain ⟨i, hi, hz⟩ := hz
    simp [zeroValue, typeInfo, hi, hz]
  have hmg := midx_mget m k 0
  cases hi : midx m k 0 with
  | none =>
    rw [hi] at hmg hf
    simp at hmg
    rw [← hmg]
    cases ok <;> simp [Instr.lookup, run_underlying ht, hget, hc, hf, hzr]
  | some p =>
    obtain ⟨i, u⟩ := p
    rw [hi] at hmg hf
    simp at hmg
    rw [← hmg]
    cases ok <;> simp [Instr.lookup, run_underlying ht, hget, hc, hf]

theorem del_list (f : κ → Value) (k : κ) : ∀ (es : List MapEntry) (m : List (κ × Value)) (i j : Nat) (u : Value), es.map (fun e => (e.key, e.val)) = m.map (fun p => (f p.1, p.2)) → midx m k i = some (i + j, u) →
    (es.eraseIdx j).map (fun e => (e.key, e.val)) = (mdel m k).map (fun p => (f p.1, p.2)) := by
  intro es
  induction es with
  | nil => intro m i j u h hi; cases m with
    | nil => simp [midx] at hi
    | cons _ _ => simp at h
  | cons e es ih =>
    intro m i j u h hi
    cases m with
    | nil => simp at h
    | cons x r =>
      obtain ⟨a, v0⟩ := x
      simp only [List.map_cons, List.cons.injEq] at h
      simp only [midx] at hi
      by_cases hka : k = a
      · subst hka
        simp at hi
        obtain ⟨hj, _⟩ := hi
        subst hj
        simp [mdel, h.2]
      · simp only [hka, if_false] at hi
        cases j with
        | zero =>
          exfalso
          have key : ∀ (m : List (κ × Value)) (i n : Nat) (u : Value), midx m k i = some (n, u) → i ≤ n := by
            intro m
            induction m with
            | nil => intro i n u h; simp [midx] at h
            | cons x r ih => intro i n u h; obtain ⟨b, z⟩ := x; simp only [midx] at h; split at h
                             · simp at h; omega
                             · have := ih _ _ _ h; omega
          have := key _ _ _ _ hi
          omega
        | succ j =>
          have := ih r (i + 1) j u h.2 (by rw [hi, show i + (j + 1) = i + 1 + j from by omega])
          simp only [List.eraseIdx_cons_succ, List.map_cons, mdel, hka, if_false, this]
          rw [h.1]

theorem mdel_none {m : List (κ × Value)} {k : κ} (h : midx m k 0 = none) : mdel m k = m := by
  have : mget m k = none := by rw [← midx_mget m k 0, h]; rfl
  clear h
  induction m with
  | nil => rfl
  | cons x r ih =>
    obtain ⟨a, u⟩ := x
    simp only [mget] at this
    split at this
    · cases this
    · rename_i hka
      simp [mdel, hka, ih this]

theorem run_delete (hk : KeyOK kd enc) {t key elem kt : TypeId} {ty : TypeId} (ht : P.underlying t = some (.map key elem)) (hkey : P.underlying key = some kd) {w : World} {b : Nat} {m : List (κ × Value)} (h : MapR enc w b m) (k : κ) :
    ∃ w', (Builtin.delete_ #[t, kt] ty #[.map (some b), enc k]).run P w = .ok (.tuple #[]) w' ∧ Kt (fun i => i = b) w w' ∧ MapR enc w' b (mdel m k) ∧ w'.heap.size = w.heap.size := by
  obtain ⟨es, clock, h1, h2, h3, h4, h5⟩ := h
  have hf := run_findKey hk hkey k h2 w
  have hc := run_checkKey hk hkey es.isEmpty k w
  have hget : (getObj b).run P w = .ok (.map es clock) w := by simp [getObj, Sem.run, h1]
  have hset : ∀ o, (setObj b o).run P w = .ok () (w.putObj b o) := fun o => by simp [setObj, Sem.run, h1, World.putObj]
  cases hi : midx m k 0 with
  | none =>
    refine ⟨w.putObj b (.map es clock), ?_, kt_put _ _ _, ⟨_, _, put_same h1, ?_, mdel_nodup h3 k, h4, h5⟩, by simp⟩
    · simp [Builtin.delete_, run_underlying ht, hget, hc, hf, hi, hset]
    · rw [mdel_none hi]; exact h2
  | some p =>
    obtain ⟨i, u⟩ := p
    have hd := del_list enc k es.toList m 0 i u h2 (by rw [hi]; simp)
    have hsub : (es.eraseIdxIfInBounds i).toList = es.toList.eraseIdx i := by simp
    refine ⟨w.putObj b (.map (es.eraseIdxIfInBounds i) clock), ?_, kt_put _ _ _, ⟨_, _, put_same h1, by rw [hsub]; exact hd, mdel_nodup h3 k, ?_, ?_⟩, by simp⟩
    · simp [Builtin.delete_, run_underlying ht, hget, hc, hf, hi, hset]
    · rw [hsub]; exact ((List.eraseIdx_sublist _ _).map _).nodup h4
    · rw [hsub]; intro e he; exact h5 e ((List.eraseIdx_sublist _ _).mem he)

end

theorem map_eraseIdx {α β : Type} (f : α → β) : ∀ (l : List α) (i : Nat), (l.eraseIdx i).map f = (l.map f).eraseIdx i
  | [], _ => rfl
  | _ :: _, 0 => rfl
  | x :: l, i + 1 => by simp [map_eraseIdx f l i]
theorem perm_eraseIdx {α : Type} : ∀ (l : List α) (i : Nat) (h : i < l.length), l.Perm (l[i] :: l.eraseIdx i)
  | [], _, h => by simp at h
  | x :: l, 0, _ => by simp
  | x :: l, i + 1, h => by
    simp only [List.getElem_cons_succ, List.eraseIdx_cons_succ]
    exact ((perm_eraseIdx l i (by simpa using h)).cons x).trans (List.Perm.swap _ _ _)

theorem run_mapNext {n : Nat} (h : 0 < n) (w : World) : ∃ (w2 : World) (j : Nat), (w2 = w ∨ w2 = w.drew) ∧ j < n ∧ (choose (.mapNext n)).run P w = .ok j w2 := by
  by_cases hf : n ≤ 1
  · exact ⟨w, 0, .inl rfl, h, by unfold choose Sem.run; rw [if_pos (by simpa [Question.forced] using hf)]; rfl⟩
  · refine ⟨w.drew, (w.tape w.drawn (.mapNext n)) % n, .inr rfl, Nat.mod_lt _ h, ?_⟩
    unfold choose Sem.run
    rw [if_neg (by simp [Question.forced]; omega)]
    rfl

section
variable {κ : Type} {enc : κ → Value}
theorem run_mlen {t key elem ty : TypeId} (ht : P.underlying t = some (.map key elem)) {w : World} {b : Nat} {m : List (κ × Value)} (h : MapR enc w b m) : (Builtin.len_ #[t] ty #[.map (some b)]).run P w = .ok (.int .i64 (m.length : Int)) w := by
  obtain ⟨es, clock, h1, h2, h3, h4, h5⟩ := h
  have hget : (getObj b).run P w = .ok (.map es clock) w := by simp [getObj, Sem.run, h1]
  have hl : es.size = m.length := by have := congrArg List.length h2; simpa using this
  simp [Builtin.len_, run_underlying ht, hget, goInt, hl]

theorem run_clear {t key elem ty : TypeId} (ht : P.underlying t = some (.map key elem)) {w : World} {b : Nat} {m : List (κ × Value)} (h : MapR enc w b m) :
    ∃ w', (Builtin.clear_ #[t] ty #[.map (some b)]).run P w = .ok (.tuple #[]) w' ∧ Kt (fun i => i = b) w w' ∧ MapR enc w' b [] ∧ w'.heap.size = w.heap.size := by
  obtain ⟨es, clock, h1, h2, h3, h4, h5⟩ := h
  have hget : (getObj b).run P w = .ok (.map es clock) w := by simp [getObj, Sem.run, h1]
  have hset : ∀ o, (setObj b o).run P w = .ok () (w.putObj b o) := fun o => by simp [setObj, Sem.run, h1, World.putObj]
  refine ⟨w.putObj b (.map #[] clock), ?_, kt_put _ _ _, MapR.empty (put_same h1), by simp⟩
  simp [Builtin.clear_, run_underlying ht, hget, hset]

/-- A walk over a map that nobody changes: what has not come yet. -/
def IterR (enc : κ → Value) (w : World) (r b : Nat) (left : List (κ × Value)) : Prop :=
  ∃ es clock seen, w.heap[b]? = some (.map es clock) ∧ (es.toList.map (·.born)).Nodup ∧ (∀ e ∈ es.toList, e.born < clock) ∧
    w.heap[r]? = some (.mapIter (some b) clock seen clock) ∧ (es.toList.filter fun e => !seen.contains e.born).map (fun e => (e.key, e.val)) = left.map (fun p => (enc p.1, p.2)) ∧ (seen.isEmpty = false → es.isEmpty = false)

theorem IterR.kt {S : Nat → Prop} {w w' : World} {r b : Nat} {left : List (κ × Value)} (h : IterR enc w r b left) (hk : Kt S w w') (hr : ¬ S r) (hb : ¬ S b) : IterR enc w' r b left := by
  obtain ⟨es, clock, seen, h1, h2, h3, h4, h5⟩ := h
  exact ⟨es, clock, seen, hk.at h1 hb, h2, h3, hk.at h4 hr, h5⟩
theorem IterR.ne_cells {w : World} {r b c : Nat} {left : List (κ × Value)} {cs : Array Value} {t : TypeId} {fr : Nat × Nat} (h : IterR enc w r b left) (hc : w.heap[c]? = some (.cells cs t fr)) : r ≠ c := by
  rintro rfl
  obtain ⟨es, clock, seen, h1, h2, h3, h4, h5⟩ := h
  rw [h4] at hc; cases hc
theorem IterR.lt {w : World} {r b : Nat} {left : List (κ × Value)} (h : IterR enc w r b left) : r < w.heap.size := by
  obtain ⟨es, clock, seen, h1, h2, h3, h4, h5⟩ := h; exact blk_lt h4

theorem run_range {t key elem : TypeId} (ht : P.underlying t = some (.map key elem)) {w : World} {b : Nat} {m : List (κ × Value)} (h : MapR enc w b m) :
    ∃ w', (Instr.range t (.map (some b))).run P w = .ok (.pointer (some ⟨w.heap.size, 0, none⟩)) w' ∧ Kt No w w' ∧ IterR enc w' w.heap.size b m ∧ w'.heap.size = w.heap.size + 1 := by
  obtain ⟨es, clock, h1, h2, h3, h4, h5⟩ := h
  have hget : (getObj b).run P w = .ok (.map es clock) w := by simp [getObj, Sem.run, h1]
  refine ⟨w.alloc (.mapIter (some b) clock #[] clock), ?_, kt_alloc _ _, ⟨es, clock, #[], (kt_alloc _ _).at0 h1, h4, h5, alloc_new _ _, ?_, by simp⟩, by simp⟩
  · simp [Instr.range, run_underlying ht, hget, run_newObj_alloc]
  · have : (es.toList.filter fun e => !(#[] : Array Nat).contains e.born) = es.toList := by simp
    rw [this]; exact h2

/-- The entry at which an iterator stands. -/
def EntR (enc : κ → Value) (w : World) (r b : Nat) (k : κ) (v : Value) : Prop :=
  ∃ (es : Array MapEntry) (clock : Nat) (seen : Array Nat) (e : MapEntry), w.heap[b]? = some (.map es clock) ∧ w.heap[r]? = some (.mapIter (some b) clock (seen.push e.born) clock) ∧ (es.toList.map (·.born)).Nodup ∧ e ∈ es.toList ∧ e.key = enc k ∧ e.val = v
theorem EntR.kt {S : Nat → Prop} {w w' : World} {r b : Nat} {k : κ} {v : Value} (h : EntR enc w r b k v) (hk : Kt S w w') (hr : ¬ S r) (hb : ¬ S b) : EntR enc w' r b k v := by
  obtain ⟨es, clock, seen, e, h1, h2, h3⟩ := h
  exact ⟨es, clock, seen, e, hk.at h1 hb, hk.at h2 hr, h3⟩
theorem find_born : ∀ (l : List MapEntry) (e : MapEntry), (l.map (·.born)).Nodup → e ∈ l → l.find? (fun x => x.born == e.born) = some e := by
  intro l e
  induction l with
  | nil => intro _ h; cases h
  | cons y ys ih =>
    intro hn he
    simp only [List.map_cons, List.nodup_cons] at hn
    rcases List.mem_cons.1 he with rfl | he
    · simp
    · have hy : y.born ≠ e.born := fun e' => hn.1 (e' ▸ List.mem_map.2 ⟨e, he, rfl⟩)
      rw [List.find?_cons_of_neg (by simpa using hy)]
      exact ih hn.2 he
theorem run_entry {w : World} {r b : Nat} {k : κ} {v : Value} (h : EntR enc w r b k v) : (Instr.entry (.pointer (some ⟨r, 0, none⟩))).run P w = .ok (.tuple #[enc k, v]) w := by
  obtain ⟨es, clock, seen, e, h1, h2, h3, h4, h5, h6⟩ := h
  have hgetr : (getObj r).run P w = .ok (.mapIter (some b) clock (seen.push e.born) clock) w := by simp [getObj, Sem.run, h2]
  have hgetb : (getObj b).run P w = .ok (.map es clock) w := by simp [getObj, Sem.run, h1]
  have hf : es.find? (fun x => x.born == e.born) = some e := by rw [← Array.find?_toList]; exact find_born _ _ h3 h4
  simp only [Instr.entry, Sem.run_bind, hgetr, Result.andThen_ok]
  simp [hgetb, hf, h5, h6]
theorem run_next {w : World} {r b : Nat} {left : List (κ × Value)} {ty : TypeId} (h : IterR enc w r b left) :
    (left = [] ∧ ∃ w', (Instr.next (.pointer (some ⟨r, 0, none⟩)) false ty).run P w = .ok (.tuple #[.bool false]) w' ∧ Kt No w w' ∧ w'.heap.size = w.heap.size) ∨
    ∃ k v left' w', left.Perm ((k, v) :: left') ∧ (Instr.next (.pointer (some ⟨r, 0, none⟩)) false ty).run P w = .ok (.tuple #[.bool true, enc k, v]) w' ∧ Kt (fun i => i = r) w w' ∧ IterR enc w' r b left' ∧ w'.heap.size = w.heap.size ∧ EntR enc w' r b k v := by
  obtain ⟨es, clock, seen, h1, h2, h3, h4, h5, h6⟩ := h
  have hgetr : (getObj r).run P w = .ok (.mapIter (some b) clock seen clock) w := by simp [getObj, Sem.run, h4]
  have hgetb : ∀ w' : World, w'.heap = w.heap → (getObj b).run P w' = .ok (.map es clock) w' := fun w' e => by simp [getObj, Sem.run, e, h1]
  have hset : ∀ (w' : World) o, w'.heap = w.heap → (setObj r o).run P w' = .ok () (w'.putObj r o) := fun w' o e => by simp [setObj, Sem.run, e, h4, World.putObj]
  have hold : ((es.filter fun e => !seen.contains e.born).filter fun e => decide (e.born < clock)) = es.filter fun e => !seen.contains e.born := by
    apply Array.toList_inj.1
    simp only [Array.toList_filter]
    rw [List.filter_eq_self]
    intro e he
    simpa using h3 e ((List.mem_filter.1 he).1)
  have hnew : ((es.filter fun e => !seen.contains e.born).filter fun e => decide (e.born ≥ clock)) = #[] := by
    apply Array.toList_inj.1
    simp only [Array.toList_filter]
    rw [List.filter_eq_nil_iff]
    intro e he
    have := h3 e ((List.mem_filter.1 he).1)
    simp; omega
  have hguard : (!seen.isEmpty && !es.isEmpty && es.all fun e => decide (e.born ≥ clock)) = false := by
    cases hes : es.isEmpty with
    | true => simp
    | false =>
      have hne : es.toList ≠ [] := fun e => by simp at e; subst e; simp at hes
      obtain ⟨e, he⟩ := List.exists_mem_of_ne_nil _ hne
      have hlt := h3 e he
      have : (es.all fun e => decide (e.born ≥ clock)) = false := by
        rw [Bool.eq_false_iff]
        intro hall
        rw [Array.all_eq_true_iff_forall_mem] at hall
        have := hall e (by simpa using he)
        simp at this; omega
      simp [this]
  cases hl : left with
  | nil =>
    left
    subst hl
    have he : (es.filter fun e => !seen.contains e.born) = #[] := by
      apply Array.toList_inj.1
      simpa using h5
    refine ⟨rfl, w, ?_, Kt.refl _ _, rfl⟩
    simp only [Instr.next, Sem.run_bind, hgetr, Result.andThen_ok, hgetb w rfl]
    rw [hguard, hold, hnew, he]
    simp [choose, Sem.run, Question.forced]
  | cons x rest =>
    right
    have hcand : ∀ j, j < (es.filter fun e => !seen.contains e.born).size → ∃ e, (es.filter fun e => !seen.contains e.born)[j]? = some e := fun j hj => ⟨_, Array.getElem?_eq_getElem hj⟩
    have hsz : (es.filter fun e => !seen.contains e.born).size = left.length := by
      have := congrArg List.length h5
      simp only [List.length_map] at this
      rw [← Array.length_toList, Array.toList_filter]; exact this
    have hpos : 0 < (es.filter fun e => !seen.contains e.born).size := by rw [hsz, hl]; simp
    have hne : (es.filter fun e => !seen.contains e.born).isEmpty = false := by
      rw [Array.isEmpty_eq_false_iff]; intro e; rw [e] at hpos; simp at hpos
    obtain ⟨w2, j, hw2, hj, hch⟩ := run_mapNext hpos w
    have hheap : w2.heap = w.heap := by rcases hw2 with rfl | rfl <;> rfl
    obtain ⟨e, he⟩ := hcand j hj
    have hrun : (Instr.next (.pointer (some ⟨r, 0, none⟩)) false ty).run P w = .ok (.tuple #[.bool true, e.key, e.val]) (w2.putObj r (.mapIter (some b) clock (seen.push e.born) clock)) := by
      simp only [Instr.next, Sem.run_bind, hgetr, Result.andThen_ok, hgetb w rfl]
      rw [hguard, hold, hnew]
      rw [hne, if_neg (by simp)]
      have hA : ((if false = true then #[none] else #[]) ++ Array.map some ((es.filter fun e => !seen.contains e.born) ++ #[])) = Array.map some (es.filter fun e => !seen.contains e.born) := by
        rw [if_neg (by simp), Array.append_empty, Array.empty_append]
      rw [hA, Sem.run_bind, Array.size_map, hch]
      dsimp only [Result.andThen]
      rw [Array.getElem?_map, he]
      show Sem.run P (setObj r (.mapIter (some b) clock (seen.push e.born) clock) >>= fun _ => pure (Value.tuple #[Value.bool true, e.key, e.val])) w2 = _
      rw [Sem.run_bind, hset w2 _ hheap]
      rfl
    -- e is among the left
    have hel : (es.toList.filter fun e => !seen.contains e.born)[j]? = some e := by rw [← Array.toList_filter, Array.getElem?_toList]; exact he
    have hmem := List.mem_of_getElem? hel
    have hmem' : e ∈ es.toList := (List.mem_filter.1 hmem).1
    obtain ⟨y, hlj⟩ : ∃ y, left[j]? = some y := ⟨_, List.getElem?_eq_getElem (by rw [← hsz]; exact hj)⟩
    have hkv : (e.key, e.val) = (enc y.1, y.2) := by
      have := congrArg (·[j]?) h5
      simp only [List.getElem?_map, hel, hlj, Option.map_some] at this
      simpa using this
    simp only [Prod.mk.injEq] at hkv
    refine ⟨y.1, y.2, left.eraseIdx j, _, ?_, by rw [hrun, hkv.1, hkv.2], ?_, ⟨es, clock, seen.push e.born, ?_, h2, h3, ?_, ?_, fun _ => ?_⟩, ?_, ⟨es, clock, seen, e, ?_, ?_, h2, hmem', hkv.1, hkv.2⟩⟩
    · have : j < left.length := by rw [← hsz]; exact hj
      have h0 : left[j] = y := (List.getElem?_eq_some_iff.1 hlj).2
      have hp := (perm_eraseIdx left j this).symm
      rw [h0] at hp
      rw [← hl]; exact hp.symm
    · have k1 : Kt No w w2 := by rcases hw2 with rfl | rfl
                                 · exact Kt.refl _ _
                                 · exact (Kt.refl _ _).drew
      exact (k1.mono (fun _ _ e => e.elim)).trans (kt_put _ _ _) (fun _ _ e => e)
    · rw [World.putObj_heap_other (by rintro rfl; rw [h1] at h4; cases h4), hheap]; exact h1
    · exact World.putObj_heap_same (by rw [hheap]; exact blk_lt h4)
    · have hfilt : (es.toList.filter fun e' => !(seen.push e.born).contains e'.born) = (es.toList.filter fun e => !seen.contains e.born).eraseIdx j := by
        have hnd : ((es.toList.filter fun e => !seen.contains e.born).map (·.born)).Nodup := (List.filter_sublist.map _).nodup h2
        have e1 : (es.toList.filter fun e' => !(seen.push e.born).contains e'.born) = (es.toList.filter fun e => !seen.contains e.born).filter fun e' => !(e'.born == e.born) := by
          rw [List.filter_filter]
          apply List.filter_congr
          intro a _
          simp [Array.contains_push]
          rw [Bool.and_comm]
          rfl
        rw [e1]
        have key : ∀ (l : List MapEntry) (j : Nat), (l.map (·.born)).Nodup → l[j]? = some e → l.filter (fun e' => !(e'.born == e.born)) = l.eraseIdx j := by
          intro l
          induction l with
          | nil => intro j _ h; simp at h
          | cons y ys ih =>
            intro j hn h
            simp only [List.map_cons, List.nodup_cons] at hn
            cases j with
            | zero =>
              simp at h; subst h
              simp only [List.eraseIdx_cons_zero, List.filter_cons, beq_self_eq_true, Bool.not_true, Bool.false_eq_true, if_false]
              rw [List.filter_eq_self]
              intro z hz
              have : z.born ≠ y.born := fun e => hn.1 (e ▸ List.mem_map.2 ⟨z, hz, rfl⟩)
              simp [this]
            | succ j =>
              simp at h
              have hy : y.born ≠ e.born := fun e' => hn.1 (e' ▸ List.mem_map.2 ⟨e, List.mem_of_getElem? h, rfl⟩)
              simp [List.filter_cons, hy, ih j hn.2 h]
        exact key _ j hnd hel
      rw [hfilt, map_eraseIdx, h5, map_eraseIdx]
    · rw [Array.isEmpty_eq_false_iff]; intro e0; rw [e0] at hmem'; simp at hmem'
    · rw [World.putObj_size, hheap]
    · rw [World.putObj_heap_other (by rintro rfl; rw [h1] at h4; cases h4), hheap]; exact h1
    · exact World.putObj_heap_same (by rw [hheap]; exact blk_lt h4)
end

section
variable {X : Cx} {E : Env} {w : World} {d : Nat} {ty : TypeId} {pos : String} {aft : Array Edge} {g : Option (Nat × Bool)} {K : Env → World → Prop} {Kp : List PanicEntry → World → Prop}
variable {κ : Type} [DecidableEq κ] {enc : κ → Value} {kd : TypeDesc}

theorem Ev.lookup {x i : Operand} {t key elem : TypeId} {b : Nat} {m : List (κ × Value)} {k : κ} {z : Value} {ok : Bool} (hk : KeyOK kd enc) (ht : P.underlying t = some (.map key elem)) (hkey : P.underlying key = some kd) (hz : (P.info? elem).bind (·.zero) = some z) (hx : E.ev x = some (.map (some b))) (hi : E.ev i = some (enc k)) (h : MapR enc w b m) :
    Ev X (.lookup t x i ok) ty E w (if ok then .tuple #[(mget m k).getD z, .bool (mget m k).isSome] else (mget m k).getD z) w :=
  ⟨(by intro c e; cases e), fun a ha d pos aft g => by simp [execOp, ha.ev hx, ha.ev hi, run_lookup hk ht hkey h k hz ok]⟩

theorem Stp.mapUpdate {x i y : Operand} {t key elem : TypeId} {b : Nat} {m : List (κ × Value)} {k : κ} {v : Value} (hk : KeyOK kd enc) (ht : P.underlying t = some (.map key elem)) (hkey : P.underlying key = some kd) (hx : E.ev x = some (.map (some b))) (hi : E.ev i = some (enc k)) (hy : E.ev y = some v) (h : MapR enc w b m)
    (hK : ∀ w', Kt (fun i => i = b) w w' → MapR enc w' b (mset m k v) → w'.heap.size = w.heap.size → K E w') : Stp X ⟨none, .mapUpdate t x i y, ty, pos, aft, g⟩ E w K Kp := by
  obtain ⟨w', hr, h1, h2, h3⟩ := run_mapUpdate hk ht hkey h k v
  exact Stp.skp (by intro c e; cases e) (fun a ha g => by simp [execOp, ha.ev hx, ha.ev hi, ha.ev hy, hr]) (fun a ha => ha) (hK w' h1 h2 h3)

theorem Stp.delete {x i : Operand} {t key elem kt : TypeId} {b : Nat} {m : List (κ × Value)} {k : κ} {d : Option Nat} (hd : d = none) (hk : KeyOK kd enc) (ht : P.underlying t = some (.map key elem)) (hkey : P.underlying key = some kd) (hx : E.ev x = some (.map (some b))) (hi : E.ev i = some (enc k)) (h : MapR enc w b m)
    (hK : ∀ w', Kt (fun i => i = b) w w' → MapR enc w' b (mdel m k) → w'.heap.size = w.heap.size → K E w') : Stp X ⟨d, .call { callee := .builtin .delete, args := #[x, i], argTypes := #[t, kt] }, ty, pos, aft, g⟩ E w K Kp := by
  subst hd
  obtain ⟨w', hr, h1, h2, h3⟩ := run_delete (ty := ty) (kt := kt) hk ht hkey h k
  exact Stp.val (v := .tuple #[]) (by intro c e; cases e) (fun a ha g => by simp [execOp, ha.ev hx, ha.ev hi, resolve, invoke, builtin, hr]) (fun a ha => ha) (hK w' h1 h2 h3)

end

section
variable {X : Cx} {E : Env} {w : World} {d : Nat} {ty : TypeId} {pos : String} {aft : Array Edge} {g : Option (Nat × Bool)} {K : Env → World → Prop} {Kp : List PanicEntry → World → Prop}
variable {κ : Type} {enc : κ → Value}

theorem Ev.mlen {x : Operand} {t key elem : TypeId} {b : Nat} {m : List (κ × Value)} (ht : P.underlying t = some (.map key elem)) (hx : E.ev x = some (.map (some b))) (h : MapR enc w b m) :
    Ev X (.call { callee := .builtin .len, args := #[x], argTypes := #[t] }) ty E w (.int .i64 (m.length : Int)) w :=
  ⟨(by intro c e; cases e), fun a ha d pos aft g => by simp [execOp, ha.ev hx, resolve, invoke, builtin, run_mlen ht h]⟩

theorem Stp.clear {x : Operand} {t key elem : TypeId} {b : Nat} {m : List (κ × Value)} {d : Option Nat} (hd : d = none) (ht : P.underlying t = some (.map key elem)) (hx : E.ev x = some (.map (some b))) (h : MapR enc w b m)
    (hK : ∀ w', Kt (fun i => i = b) w w' → MapR enc w' b [] → w'.heap.size = w.heap.size → K E w') : Stp X ⟨d, .call { callee := .builtin .clear, args := #[x], argTypes := #[t] }, ty, pos, aft, g⟩ E w K Kp := by
  subst hd
  obtain ⟨w', hr, h1, h2, h3⟩ := run_clear (ty := ty) ht h
  exact Stp.val (v := .tuple #[]) (by intro c e; cases e) (fun a ha g => by simp [execOp, ha.ev hx, resolve, invoke, builtin, hr]) (fun a ha => ha) (hK w' h1 h2 h3)

theorem Stp.range {x : Operand} {t key elem : TypeId} {b : Nat} {m : List (κ × Value)} (ht : P.underlying t = some (.map key elem)) (hx : E.ev x = some (.map (some b))) (h : MapR enc w b m) (hd : Nat.blt d X.N = true)
    (hK : ∀ r w', r = w.heap.size → Kt No w w' → IterR enc w' r b m → w'.heap.size = r + 1 → K ((d, .pointer (some ⟨r, 0, none⟩)) :: E) w') : Stp X ⟨some d, .range t x, ty, pos, aft, g⟩ E w K Kp := by
  obtain ⟨w', hr, h1, h2, h3⟩ := run_range ht h
  exact Stp.val (v := .pointer (some ⟨w.heap.size, 0, none⟩)) (by intro c e; cases e) (fun a ha g => by simp [execOp, ha.ev hx, hr]) (fun a ha => ha.put hd) (hK _ w' rfl h1 h2 h3)

theorem Stp.next {x : Operand} {r b : Nat} {left : List (κ × Value)} (hx : E.ev x = some (.pointer (some ⟨r, 0, none⟩))) (h : IterR enc w r b left) (hd : Nat.blt d X.N = true)
    (h0 : left = [] → ∀ w', Kt No w w' → w'.heap.size = w.heap.size → K ((d, .tuple #[.bool false]) :: E) w')
    (h1 : ∀ k v left' w', left.Perm ((k, v) :: left') → Kt (fun i => i = r) w w' → IterR enc w' r b left' → EntR enc w' r b k v → w'.heap.size = w.heap.size → K ((d, .tuple #[.bool true, enc k, v]) :: E) w') : Stp X ⟨some d, .next x false, ty, pos, aft, g⟩ E w K Kp := by
  rcases run_next (ty := ty) h with ⟨hl, w', hr, k1, k2⟩ | ⟨k, v, left', w', hp, hr, k1, k2, k3, k4⟩
  · exact Stp.val (v := .tuple #[.bool false]) (by intro c e; cases e) (fun a ha g => by simp [execOp, ha.ev hx, hr]) (fun a ha => ha.put hd) (h0 hl w' k1 k2)
  · exact Stp.val (v := .tuple #[.bool true, enc k, v]) (by intro c e; cases e) (fun a ha g => by simp [execOp, ha.ev hx, hr]) (fun a ha => ha.put hd) (h1 k v left' w' hp k1 k2 k4 k3)
theorem Ev.entry {x : Operand} {r b : Nat} {k : κ} {v : Value} (hx : E.ev x = some (.pointer (some ⟨r, 0, none⟩))) (h : EntR enc w r b k v) : Ev X (.entry x) ty E w (.tuple #[enc k, v]) w :=
  ⟨(by intro c e; cases e), fun a ha d pos aft g => by simp [execOp, ha.ev hx, run_entry h]⟩
end
end Go.Proofs.YtlcgeepjekcfgaaGreat
