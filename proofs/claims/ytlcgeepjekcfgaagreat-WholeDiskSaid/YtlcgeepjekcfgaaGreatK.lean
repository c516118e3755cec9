/- The builder; roots. -/
import Derived.Test.YtlcgeepjekcfgaaGreatJ
namespace Go.Proofs.YtlcgeepjekcfgaaGreat
open Go.RowKit
set_option linter.unusedVariables false
set_option linter.unusedSimpArgs false

theorem sz_108 : (P.info? 108).map (·.size) = some 2 := by kernel_rfl
theorem liesB0 : liesAt P P.depth 108 (2 / P.cellsOf 108) 0 108 1 = true := by kernel_rfl
theorem liesB (b : Nat) : liesAt P P.depth 108 (2 / P.cellsOf 108) (⟨b, 0, none⟩ : Addr).off 108 1 = true := liesB0


section
variable {X : Cx} {E : Env} {w : World} {d : Nat} {ty : TypeId} {pos : String} {aft : Array Edge} {g : Option (Nat × Bool)} {K : Env → World → Prop} {Kp : List PanicEntry → World → Prop}
theorem Ev.pnil {x y : Operand} {p : Value} {b : Bool} (hx : E.ev x = some p) (hy : E.ev y = some (.pointer none)) (h : (p = .pointer none ∧ b = true) ∨ (∃ a, p = .pointer (some a)) ∧ b = false) : Ev X (.binOp .eql 106 x y 106) ty E w (.bool b) w :=
  ⟨(by intro c e; cases e), fun a ha d pos aft g => by
    have h1 : ∀ d : Nat, (Op.equalIn (d + 1) 106 p (.pointer none)).run P w = .ok b w := fun d => by
      rcases h with ⟨rfl, rfl⟩ | ⟨⟨q, rfl⟩, rfl⟩ <;> simp [Op.equalIn, run_underlying Tryz.underlying106]
    have h2 : (binOp .eql 106 p (.pointer none)).run P w = .ok (.bool b) w := by
      rcases h with ⟨rfl, rfl⟩ | ⟨⟨q, rfl⟩, rfl⟩ <;> simp only [binOp] <;> simp [Op.equal, Op.maxDepth, h1 9999]
    have h3 : (eqGuard .eql 106 x y p (.pointer none)).run P w = .ok () w := by
      rcases h with ⟨rfl, rfl⟩ | ⟨⟨q, rfl⟩, rfl⟩ <;> simp [eqGuard]
    simp [execOp, ha.ev hx, ha.ev hy, h2, h3]⟩
theorem Ev.psame {x y : Operand} {p : Addr} (hx : E.ev x = some (.pointer (some p))) (hy : E.ev y = some (.pointer (some p))) : Ev X (.binOp .neq 106 x y 106) ty E w (.bool false) w :=
  ⟨(by intro c e; cases e), fun a ha d pos aft g => by
    obtain ⟨i, hi, _⟩ := Option.map_eq_some_iff.1 sz_108
    have := Lib.run_neq_ptr_same w p Tryz.underlying106 hi
    simp [execOp, ha.ev hx, ha.ev hy, eqGuard, this]⟩
theorem Ev.toUnsafe {x : Operand} {b : Nat} {cs : Array Value} {fr : Nat × Nat} (hx : E.ev x = some (.pointer (some ⟨b, 0, none⟩))) (hb : w.heap[b]? = some (.cells cs 108 fr)) (hs : cs.size = 2) : Ev X (.convert 106 148 x) ty E w (.pointer (some ⟨b, 0, none⟩)) w :=
  ⟨(by intro c e; cases e), fun a ha d pos aft g => by
    obtain ⟨i, hi, hsz⟩ := Option.map_eq_some_iff.1 sz_108
    have := Lib.run_to_unsafe w ⟨b, 0, none⟩ Tryz.underlying106 Tryz.underlying148 hi (by rw [hsz]; decide) (e := 108) (cells := 2) (by simp [World.shape?, hb, hs]) (Nat.zero_lt_succ 1)
    simp [execOp, ha.ev hx, this]⟩
theorem Ev.fromUnsafe {x : Operand} {b : Nat} {cs : Array Value} {fr : Nat × Nat} (hx : E.ev x = some (.pointer (some ⟨b, 0, none⟩))) (hb : w.heap[b]? = some (.cells cs 108 fr)) (hs : cs.size = 2) : Ev X (.convert 148 106 x) ty E w (.pointer (some ⟨b, 0, none⟩)) w :=
  ⟨(by intro c e; cases e), fun a ha d pos aft g => by
    obtain ⟨i, hi, hsz⟩ := Option.map_eq_some_iff.1 sz_108
    have hsh : w.shape? b = some (108, 2) := by simp [World.shape?, hb, hs]
    have h2 := fun hl => Lib.run_from_unsafe (P := P) w ⟨b, 0, none⟩ (e := 108) (cells := 2) Tryz.underlying148 Tryz.underlying106 hi hsh hl
    have := h2 liesB0
    simp [execOp, ha.ev hx, this]⟩
theorem Stp.noEscape {x : Operand} {v : Value} (hx : E.ev x = some v) (hd : Nat.blt d X.N = true) (h : K ((d, v) :: E) w) : Stp X ⟨some d, .call { callee := .value (.func 83), args := #[x], argTypes := #[148] }, ty, pos, aft, g⟩ E w K Kp :=
  Stp.val (w' := w) (v := v) (by intro c e; cases e) (fun a ha g => by
    have h1 := run_callFunc_extern Tryz.func83 (by kernel_rfl) (by kernel_rfl) (by kernel_rfl) (e := Extern.AbiNoEscape.same) (by kernel_rfl) #[v] w
    rw [Lib.run_noEscape] at h1
    have hf : a.eval (.func 83) = .func (.func 83) #[] #[] := rfl
    simp [execOp, resolve, Deferred.ofValue, invoke, hf, ha.ev hx, h1, Result.andThen]) (fun a ha => ha.put hd) h
/-- append of a string's bytes. -/
theorem Stp.appendS {x y : Operand} {base n : Nat} {xs : List Value} {v : Value} {s : Bs} (hx : E.ev x = some v) (hy : E.ev y = some (str s)) (hown : w.ownsRow base 5 1 v n xs) (hb : base ≤ w.heap.size) (hn : n + s.length ≤ 140737488355328) (hd : Nat.blt d X.N = true)
    (h : ∀ v' w', w'.ownsRow base 5 1 v' (n + s.length) (xs ++ s.map byteV) → Kt (fun k => v.ownBlock = some k) w w' → K ((d, v') :: E) w') :
    Stp X ⟨some d, .call { callee := .builtin .append, args := #[x, y], argTypes := #[22, 9] }, ty, pos, aft, g⟩ E w K Kp := by
  obtain ⟨i, h1, h2, h3, h4⟩ := einf_spec ei_5
  obtain ⟨v', w', hr, ho, hg, _⟩ := Lib.run_append_own_string (P := P) w base 22 9 ty 5 i Tryz.underlying22 Tryz.underlying9 h1 h2 h3 h4 v n xs hown ⟨s.toArray⟩ (by rw [bytes_size]; unfold maxLen; omega) (by rw [bytes_size]; omega) hb
  refine Stp.val (w' := w') (v := v') (by intro c e; cases e) (fun a ha g => by
    have hy' := ha.ev hy
    simp only [str] at hy'
    simp [execOp, resolve, invoke, builtin, ha.ev hx, hy', hr]) (fun a ha => ha.put hd) (h v' w' ?_ (Kt.of_grown hg))
  rw [bytes_size] at ho
  have : Lib.strCells ⟨s.toArray⟩ = s.map byteV := by simp [Lib.strCells]
  rwa [this] at ho
end

/-- A builder in block b, that holds the bytes s. -/
def BuR (n0 : Nat) (w : World) (b : Nat) (s : Bs) : Prop := ∃ p v, (p = .pointer none ∨ p = .pointer (some ⟨b, 0, none⟩)) ∧ w.heap[b]? = some (.cells #[p, v] 108 (0, 0)) ∧ w.ownsRow n0 5 1 v s.length (s.map byteV)
theorem own_one {w : World} {base e sz n : Nat} {v : Value} {xs : List Value} (h : w.ownsRow base e sz v n xs) : v.oneCell' = true := by
  rcases h.2 with ⟨rfl, _⟩ | ⟨g, cap, cur, rfl, _⟩ <;> rfl
theorem own_ne {w : World} {base e sz n k : Nat} {v : Value} {xs : List Value} {o : Obj} (h : w.ownsRow base e sz v n xs) (ho : w.heap[k]? = some o) (hne : ∀ c f, o ≠ .cells c e f) : v.ownBlock ≠ some k := by
  intro hv
  rcases h.2 with ⟨rfl, _⟩ | ⟨g, cap, cur, rfl, _, hg, _⟩
  · cases hv
  · cases hv
    rw [hg] at ho
    cases ho
    exact hne _ _ rfl
/-- What a builder's growing leaves: blocks other than b that are no rows of bytes, and what is older than b. -/
structure Bk (n0 b : Nat) (w w' : World) : Prop where
  kt : Kt (fun k => k = b ∨ n0 ≤ k) w w'
  keep : ∀ k o, w.heap[k]? = some o → k ≠ b → (∀ c f, o ≠ .cells c 5 f) → w'.heap[k]? = some o

theorem copyCheck_calls (b : Nat) (p v : Value) (w : World) (hp : p = .pointer none ∨ p = .pointer (some ⟨b, 0, none⟩)) (hb : w.heap[b]? = some (.cells #[p, v] 108 (0, 0))) : Calls P 75 [.pointer (some ⟨b, 0, none⟩)].toArray w (Ret fun u w' => u = .tuple #[] ∧ Kt (fun k => k = b) w w' ∧ w'.heap[b]? = some (.cells #[.pointer (some ⟨b, 0, none⟩), v] 108 (0, 0))) := by
  obtain ⟨b6, h6⟩ : ∃ b6, (p = .pointer none ∧ b6 = true) ∨ (∃ a, p = .pointer (some a)) ∧ b6 = false := by rcases hp with rfl | rfl; exact ⟨true, .inl ⟨rfl, rfl⟩⟩; exact ⟨false, .inr ⟨⟨_, rfl⟩, rfl⟩⟩
  refine enterW 20 Tryz.func75 rfl rfl rfl ?_
  refine W.seq ?_
  -- region 0 (builder.go:33)
  refine W.region ?_
  refine Run.ev (Ev.move rfl) rfl rfl ?_   -- t2
  refine Run.ev (Ev.nilCheck rfl) rfl rfl ?_   -- t3
  refine Run.ev (Ev.fieldAddr fo_108_0 rfl rfl) rfl rfl ?_   -- t4
  refine Run.ev (Ev.load sc_106 rfl (cell_of hb rfl)) rfl rfl ?_   -- t5
  refine Run.ev (Ev.pnil (p := p) (b := b6) rfl rfl h6) rfl rfl ?_   -- t6
  refine Run.nil ?_
  refine At.then ?_
  refine W.cond rfl (fun hc6 => ?_) (fun hc6 => ?_)
  · obtain rfl : b6 = true := hc6
    obtain rfl : p = .pointer none := by rcases h6 with ⟨h, _⟩ | ⟨_, h⟩; exact h; cases h
    -- region 1 (builder.go:39)
    refine W.region ?_
    refine Run.ev (Ev.move rfl) rfl rfl ?_   -- t7
    refine Run.ev (Ev.move rfl) rfl rfl ?_   -- t8
    refine Run.ev (Ev.toUnsafe rfl hb rfl) rfl rfl ?_   -- t9
    refine Run.step rfl (Stp.noEscape rfl rfl ?_)   -- t10
    refine Run.ev (Ev.fromUnsafe rfl hb rfl) rfl rfl ?_   -- t11
    refine Run.ev (Ev.nilCheck rfl) rfl rfl ?_   -- t12
    refine Run.ev (Ev.fieldAddr fo_108_0 rfl rfl) rfl rfl ?_   -- t13
    refine Run.step rfl (Stp.store sc_106 sz_106 rfl rfl rfl hb (by simp) ?_)   -- tNone
    intro wS kS bS zS
    refine Run.nil ?_
    exact At.end0 rfl rfl ⟨rfl, kS, bS⟩
  · obtain rfl : b6 = false := hc6
    obtain rfl : p = .pointer (some ⟨b, 0, none⟩) := by rcases hp with h | h; rcases h6 with ⟨_, h'⟩ | ⟨⟨q, h'⟩, _⟩; cases h'; rw [h] at h'; cases h'; exact h
    refine W.seq ?_
    -- region 2 (builder.go:40)
    refine W.region ?_
    refine Run.ev (Ev.move rfl) rfl rfl ?_   -- t14
    refine Run.ev (Ev.nilCheck rfl) rfl rfl ?_   -- t15
    refine Run.ev (Ev.fieldAddr fo_108_0 rfl rfl) rfl rfl ?_   -- t16
    refine Run.ev (Ev.load sc_106 rfl (cell_of hb rfl)) rfl rfl ?_   -- t17
    refine Run.ev (Ev.move rfl) rfl rfl ?_   -- t18
    refine Run.ev (Ev.psame rfl rfl) rfl rfl ?_   -- t19
    refine Run.nil ?_
    refine At.then ?_
    refine W.cond_f rfl ?_
    refine W.skip ?_
    exact At.end0 rfl rfl ⟨rfl, Kt.refl _ _, hb⟩

theorem WriteString_calls (n0 b : Nat) (s t : Bs) (w : World) (hb : BuR n0 w b s) (hn : n0 ≤ w.heap.size) (hl : s.length + t.length ≤ 140737488355328) : Calls P 52 [.pointer (some ⟨b, 0, none⟩), str t].toArray w (Ret fun u w' => BuR n0 w' b (s ++ t) ∧ Bk n0 b w w') := by
  obtain ⟨p, v, hp, hb, hown⟩ := hb
  refine enterW 19 Tryz.func52 rfl rfl rfl ?_
  refine W.seq ?_
  -- region 0 (builder.go:112)
  refine W.region ?_
  refine Run.ev (Ev.assign rfl) rfl rfl ?_   -- t4
  refine Run.ev (Ev.assign rfl) rfl rfl ?_   -- t5
  refine Run.nil ?_
  refine At.then ?_
  refine W.seq ?_
  -- region 1 (builder.go:113)
  refine W.region ?_
  refine Run.ev (Ev.move rfl) rfl rfl ?_   -- t6
  refine Run.step rfl (Stp.callr en_75 rfl (copyCheck_calls b p v w hp hb) rfl ?_)   -- t7
  rintro v7 w7 ⟨rfl, k7, b7⟩
  refine Run.nil ?_
  refine At.then ?_
  refine W.seq ?_
  -- region 2 (builder.go:114)
  refine W.region ?_
  refine Run.ev (Ev.move rfl) rfl rfl ?_   -- t8
  refine Run.ev (Ev.move rfl) rfl rfl ?_   -- t9
  refine Run.ev (Ev.nilCheck rfl) rfl rfl ?_   -- t10
  refine Run.ev (Ev.fieldAddr fo_108_1 rfl rfl) rfl rfl ?_   -- t11
  refine Run.ev (Ev.load sc_22 rfl (cell_of b7 rfl)) rfl rfl ?_   -- t12
  refine Run.ev (Ev.move rfl) rfl rfl ?_   -- t13
  refine Run.step rfl (Stp.appendS rfl rfl (k7.own hown (fun k h => fun e => own_ne hown hb (by intro c f h; cases h) (e ▸ h))) (Nat.le_trans hn k7.size) (by simpa using hl) rfl ?_)   -- t14
  intro v14 w14 o14 k14
  have hnb : v.ownBlock ≠ some b := own_ne hown hb (by intro c f h; cases h)
  have b14 := k14.at b7 hnb
  refine Run.ev (Ev.nilCheck rfl) rfl rfl ?_   -- t15
  refine Run.ev (Ev.fieldAddr fo_108_1 rfl rfl) rfl rfl ?_   -- t16
  refine Run.step rfl (Stp.store sc_22 sz_22 rfl rfl (own_one o14) b14 (by simp) ?_)   -- tNone
  intro wS kS bS zS
  refine Run.nil ?_
  refine At.then ?_
  refine W.seq ?_
  -- region 3 (builder.go:115)
  refine W.region ?_
  refine Run.ev (Ev.move rfl) rfl rfl ?_   -- t17
  refine Run.ev (Ev.slen rfl Tryz.underlying9) rfl rfl ?_   -- t18
  refine Run.ev (Ev.assign rfl) rfl rfl ?_   -- t4
  refine Run.ev (Ev.assign rfl) rfl rfl ?_   -- t5
  refine Run.nil ?_
  refine At.then ?_
  refine W.ret ?_
  refine At.ret2 rfl rfl rfl rfl ⟨⟨_, _, .inr rfl, bS, ?_⟩, ?_, ?_⟩
  · rw [List.length_append, List.map_append]
    exact kS.own o14 (fun k h e => own_ne o14 b14 (by intro c f h; cases h) (e ▸ h))
  · have hv : ∀ k, v.ownBlock = some k → n0 ≤ k := fun k hk => by
      rcases hown.2 with ⟨rfl, _⟩ | ⟨g, cap, cur, rfl, hg, _⟩
      · cases hk
      · cases hk; exact hg
    exact ((k7.mono (fun i _ h => .inl h)).trans (k14.mono (S' := fun k => k = b ∨ n0 ≤ k) (fun i _ h => .inr (hv i h))) (fun i _ h => h)).trans (kS.mono (S' := fun k => k = b ∨ n0 ≤ k) (fun i _ h => .inl h)) (fun i _ h => h)
  · intro k o ho hkb hne
    have h1 := k7.at ho hkb
    have h2 := k14.at h1 (own_ne hown ho hne)
    exact kS.at h2 hkb

end Go.Proofs.YtlcgeepjekcfgaaGreat
