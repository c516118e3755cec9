/- The base of the walks: frames told by what is known of their slots; regions in the order of the text, and regions that draw their order. -/
import Derived.Test.YtlcgeepjekcfgaaGreatProg
import Derived.OrdersIn
import Derived.OrdersHeld
import Derived.RangeFuncRecord
import Derived.DefersIn
import Derived.Below
import Derived.KernelRfl
import Derived.WalkKit
import Derived.Shelf.Abstract
namespace Go.Proofs.YtlcgeepjekcfgaaGreat
open Go.RowKit
set_option linter.unusedVariables false

noncomputable abbrev P : Program := Tryz.prog

/-- The fence that asks nothing, of an activation (none) or of a round. -/
def Wd (ro : Option Nat) : Fence := { fn := fun _ => True, depth := none, alive := false, round := ro }
theorem wd_none : Wd none = Fence.wide := rfl
theorem wd_some (l : Nat) : Wd (some l) = Fence.wide.inRound l := rfl
theorem wd_depth {ro : Option Nat} {n : Nat} : (Wd ro).depth.isSome = true → 1 ≤ n := fun h => by cases h

abbrev Env := List (Nat × Value)
def Env.get? : Env → Nat → Option Value
  | [], _ => none
  | (k, v) :: r, t => match Nat.beq k t with | true => some v | false => Env.get? r t

/-- What a walk holds fixed: the round that the frame is of (none: an activation), how many slots, the deferred calls. -/
structure Cx where
  ro : Option Nat
  N : Nat
  ds : List Deferred

structure Fits (X : Cx) (E : Env) (a : Act) : Prop where
  size : a.tmps.size = X.N
  defers : a.defers = X.ds
  get : ∀ t v, Env.get? E t = some v → a.tmps[t]? = some v

def Env.ev (E : Env) : Operand → Option Value
  | .tmp t => E.get? t
  | .const v => some v
  | .global g => some (.pointer (some ⟨g, 0, none⟩))
  | .func f => some (.func (.func f) #[] #[])

def Env.evs (E : Env) : List Operand → Option (List Value)
  | [] => some []
  | x :: r => match E.ev x with
    | none => none
    | some v => match Env.evs E r with
      | none => none
      | some vs => some (v :: vs)

theorem Fits.ev {X : Cx} {E : Env} {a : Act} (h : Fits X E a) {x : Operand} {v : Value} (hx : E.ev x = some v) : a.eval x = v := by
  cases x with
  | tmp t => have := h.get t v hx; simp [Act.eval, this]
  | const c => exact Option.some.inj hx
  | global g => exact Option.some.inj hx
  | func f => exact Option.some.inj hx

theorem Fits.evs {X : Cx} {E : Env} {a : Act} (h : Fits X E a) : ∀ {xs : List Operand} {vs : List Value}, E.evs xs = some vs → xs.map a.eval = vs := by
  intro xs
  induction xs with
  | nil => intro vs hv; simpa [Env.evs] using hv
  | cons x r ih =>
    intro vs hv
    unfold Env.evs at hv
    cases hx : E.ev x with
    | none => simp [hx] at hv
    | some v =>
      rw [hx] at hv
      cases hr : Env.evs E r with
      | none => simp [hr] at hv
      | some us =>
        simp [hr] at hv
        subst hv
        simp [h.ev hx, ih hr]

theorem Fits.put {X : Cx} {E : Env} {a : Act} (h : Fits X E a) {d : Nat} {v : Value} (hd : Nat.blt d X.N = true) : Fits X ((d, v) :: E) (a.put (some d) v) := by
  have hd' : d < X.N := by simpa [Nat.blt_eq] using hd
  refine ⟨by simp [Act.put, h.size], h.defers, fun t u ht => ?_⟩
  unfold Env.get? at ht
  cases hb : Nat.beq d t with
  | true =>
    rw [hb] at ht
    obtain rfl : d = t := Nat.eq_of_beq_eq_true hb
    simp at ht; subst ht
    simp [Act.put, h.size, hd']
  | false =>
    rw [hb] at ht
    have hne : d ≠ t := fun e => by subst e; simp at hb
    have := h.get t u ht
    simpa [Act.put, Array.getElem?_setIfInBounds_ne hne] using this

theorem Fits.put_none {X : Cx} {E : Env} {a : Act} (h : Fits X E a) {v : Value} : Fits X E (a.put none v) := h

/-- Less is known. -/
def Env.sub (E E' : Env) : Prop := ∀ t v, Env.get? E t = some v → Env.get? E' t = some v
theorem Fits.weak {X : Cx} {E E' : Env} {a : Act} (h : Fits X E' a) (hs : E.sub E') : Fits X E a := ⟨h.size, h.defers, fun t v ht => h.get t v (hs t v ht)⟩
theorem Env.sub_nil (E : Env) : Env.sub [] E := fun t v h => by simp [Env.get?] at h
theorem Env.sub_cons {E E' : Env} {t : Nat} {v : Value} (h : E'.get? t = some v) (hr : E.sub E') : Env.sub ((t, v) :: E) E' := by
  intro s u hs
  unfold Env.get? at hs
  cases hb : Nat.beq t s with
  | true => rw [hb] at hs; obtain rfl : t = s := Nat.eq_of_beq_eq_true hb; simp at hs; subst hs; exact h
  | false => rw [hb] at hs; exact hr s u hs

/-! ### Code -/
def At (X : Cx) (Q : Exit → Act → World → Prop) (e : Exit) (E : Env) (w : World) : Prop := ∀ a, Fits X E a → Q e a w
def W (X : Cx) (c : Code) (Q : Exit → Act → World → Prop) (E : Env) (w : World) : Prop := ∀ a, Fits X E a → c.wpIn (Wd X.ro) 0 P Q a w

section
variable {X : Cx} {Q : Exit → Act → World → Prop} {E : Env} {w : World}

theorem W.weak {c : Code} {E' : Env} (hs : E'.sub E) (h : W X c Q E' w) : W X c Q E w := fun a ha => h a (ha.weak hs)
theorem At.weak {e : Exit} {E' : Env} (hs : E'.sub E) (h : At X Q e E' w) : At X Q e E w := fun a ha => h a (ha.weak hs)

theorem W.seq {x y : Code} (h : W X x (Exit.then (fun a w => y.wpIn (Wd X.ro) 0 P Q a w) Q) E w) : W X (.seq x y) Q E w := fun a ha => wpIn_seq (h a ha)
theorem W.skip (h : At X Q .normal E w) : W X .skip Q E w := fun a ha => wpIn_skip (h a ha)
theorem W.exit {id : Nat} (h : At X Q (.exit id) E w) : W X (.exit id) Q E w := fun a ha => wpIn_exit (h a ha)
theorem W.ret (h : At X Q .ret E w) : W X .ret Q E w := fun a ha => wpIn_ret (h a ha)
theorem W.block {id : Nat} {c : Code} (h : W X c (Exit.inBlock id Q) E w) : W X (.block id c) Q E w := fun a ha => wpIn_block (h a ha)
theorem W.cond {c : Operand} {x y : Code} {t : Bool} (hc : E.ev c = some (.bool t)) (ht : t = true → W X x Q E w) (hf : t = false → W X y Q E w) : W X (.cond c x y) Q E w :=
  fun a ha => wpIn_cond_split (ha.ev hc) (fun h => ht h a ha) (fun h => hf h a ha)
theorem W.cond_t {c : Operand} {x y : Code} (hc : E.ev c = some (.bool true)) (ht : W X x Q E w) : W X (.cond c x y) Q E w :=
  fun a ha => wpIn_cond_true (ha.ev hc) (ht a ha)
theorem W.cond_f {c : Operand} {x y : Code} (hc : E.ev c = some (.bool false)) (ht : W X y Q E w) : W X (.cond c x y) Q E w :=
  fun a ha => wpIn_cond_false (ha.ev hc) (ht a ha)

/-- A loop: a ghost state s, what is known of the slots in it (env), what holds of it and the world (I), a measure. -/
theorem W.loop {σ : Type} {c : Code} (env : σ → Env) (I : σ → World → Prop) (μ : σ → Nat) (s₀ : σ) (h₀ : I s₀ w) (hE : (env s₀).sub E)
    (round : ∀ s w, I s w → W X c (Exit.then (fun a' w' => ∃ s', Fits X (env s') a' ∧ I s' w' ∧ μ s' < μ s) Q) (env s) w) : W X (.loop c) Q E w := by
  intro a ha b k cs hro hb hr
  refine wpIn_loop (F := Wd X.ro) (n := 0) (P := P) (Q := Q) (fun a w => ∃ s, Fits X (env s) a ∧ I s w) (fun a w => Classical.epsilon fun m => ∃ s, Fits X (env s) a ∧ I s w ∧ μ s = m ∧ ∀ s', Fits X (env s') a → I s' w → m ≤ μ s') ⟨s₀, ha.weak hE, h₀⟩ ?_ b k cs hro hb hr
  rintro a₁ w₁ ⟨s1, hs1, hI1⟩
  -- the least measure
  have least : ∀ (a : Act) (w : World) (n : Nat), (∃ s, Fits X (env s) a ∧ I s w ∧ μ s ≤ n) → ∃ m, ∃ s, Fits X (env s) a ∧ I s w ∧ μ s = m ∧ ∀ s', Fits X (env s') a → I s' w → m ≤ μ s' := by
    intro a w n
    induction n using Nat.strongRecOn with
    | _ n ih =>
      rintro ⟨s, h1, h2, h3⟩
      by_cases hl : ∃ s', Fits X (env s') a ∧ I s' w ∧ μ s' < μ s
      · obtain ⟨s', g1, g2, g3⟩ := hl
        exact ih (μ s') (by omega) ⟨s', g1, g2, Nat.le_refl _⟩
      · exact ⟨μ s, s, h1, h2, rfl, fun s' g1 g2 => by
          rcases Nat.lt_or_ge (μ s') (μ s) with hlt | hge
          · exact absurd ⟨s', g1, g2, hlt⟩ hl
          · exact hge⟩
  obtain ⟨s, hs, hI, hm, hmin⟩ := Classical.epsilon_spec (least a₁ w₁ _ ⟨s1, hs1, hI1, Nat.le_refl _⟩)
  refine wpIn_mono (round s w₁ hI a₁ hs) ?_
  intro e a' w' hq
  cases e with
  | normal =>
    obtain ⟨s', g1, g2, g3⟩ := hq
    refine ⟨⟨s', g1, g2⟩, ?_⟩
    obtain ⟨t, t1, t2, t3, t4⟩ := Classical.epsilon_spec (least a' w' _ ⟨s', g1, g2, Nat.le_refl _⟩)
    have := t4 s' g1 g2
    show (Classical.epsilon fun m => ∃ s, Fits X (env s) a' ∧ I s w' ∧ μ s = m ∧ ∀ s'', Fits X (env s'') a' → I s'' w' → m ≤ μ s'') < (Classical.epsilon fun m => ∃ s, Fits X (env s) a₁ ∧ I s w₁ ∧ μ s = m ∧ ∀ s'', Fits X (env s'') a₁ → I s'' w₁ → m ≤ μ s'')
    omega
  | _ => exact hq

theorem At.then {y : Code} {Q' : Exit → Act → World → Prop} (h : W X y Q E w) : At X (Exit.then (fun a w => y.wpIn (Wd X.ro) 0 P Q a w) Q') .normal E w := h
theorem At.then_exit {K : Act → World → Prop} {id : Nat} (h : At X Q (.exit id) E w) : At X (Exit.then K Q) (.exit id) E w := h
theorem At.then_ret {K : Act → World → Prop} (h : At X Q .ret E w) : At X (Exit.then K Q) .ret E w := h
theorem At.block {id : Nat} (h : At X Q .normal E w) : At X (Exit.inBlock id Q) .normal E w := h
theorem At.block_ret {id : Nat} (h : At X Q .ret E w) : At X (Exit.inBlock id Q) .ret E w := h
theorem At.block_here {id : Nat} (h : At X Q .normal E w) : At X (Exit.inBlock id Q) (.exit id) E w := fun a ha => by simpa [Exit.inBlock] using h a ha
theorem At.block_on {id j : Nat} (hne : Nat.beq j id = false) (h : At X Q (.exit j) E w) : At X (Exit.inBlock id Q) (.exit j) E w := fun a ha => by
  have : j ≠ id := fun e => by subst e; simp at hne
  simpa [Exit.inBlock, this] using h a ha
theorem At.round {σ : Type} {env : σ → Env} {I : σ → World → Prop} {μ : σ → Nat} {s : σ} {Q : Exit → Act → World → Prop} (s' : σ) (hE : (env s').sub E) (hI : I s' w) (hlt : μ s' < μ s) :
    At X (Exit.then (fun a' w' => ∃ s', Fits X (env s') a' ∧ I s' w' ∧ μ s' < μ s) Q) .normal E w := fun a ha => ⟨s', ha.weak hE, hI, hlt⟩
end

/-! ### Regions -/
def wpLs (ro : Option Nat) (ops : Array Oper) (Q : Exit → Act → World → Prop) : List Oper → Act → World → Prop
  | [], a, w => Q .normal a w
  | o :: rest, a, w => if Region.wanted o (yielded ops a.tmps) then o.wpIn (Wd ro) 0 P a w (wpLs ro ops Q rest) Q else wpLs ro ops Q rest (a.put o.dst undef) w

theorem wpOpsIn_eq_wpLs {ro : Option Nat} {ops : Array Oper} {Q : Exit → Act → World → Prop} (l : List Oper) : ∀ k, (∀ j, l[j]? = ops[k + j]?) → ∀ a w, wpLs ro ops Q l a w → wpOpsIn (Wd ro) 0 P ops Q (List.range' k l.length) a w := by
  induction l with
  | nil => intro k _ a w h; exact h
  | cons o l ih =>
    intro k h a w hh
    have h0 : ops[k]? = some o := by simpa using (h 0).symm
    have ih' := ih (k + 1) (fun j => by have := h (j + 1); simpa [Nat.add_assoc, Nat.add_comm 1 j] using this)
    simp only [List.length_cons, List.range'_succ, wpOpsIn, h0]
    simp only [wpLs] at hh
    split
    · rename_i hw
      rw [if_pos hw] at hh
      exact Oper.wpIn_mono ih' hh
    · rename_i hw
      rw [if_neg hw] at hh
      exact ⟨fun _ _ => trivial, ih' _ _ hh⟩

theorem wpIn_region_ls {ro : Option Nat} {id : Nat} {ops : Array Oper} {Q : Exit → Act → World → Prop} {a : Act} {w : World} (h : wpLs ro ops Q ops.toList a w) : (Code.region id ops false).wpIn (Wd ro) 0 P Q a w :=
  wpIn_region (by rw [List.range_eq_range', ← Array.length_toList]; exact wpOpsIn_eq_wpLs ops.toList 0 (by simp) a w h)

def Run (X : Cx) (ops : Array Oper) (Q : Exit → Act → World → Prop) (l : List Oper) (E : Env) (w : World) : Prop := ∀ a, Fits X E a → wpLs X.ro ops Q l a w

theorem W.region {X : Cx} {id : Nat} {l : List Oper} {Q : Exit → Act → World → Prop} {E : Env} {w : World} (h : Run X l.toArray Q l E w) : W X (.region id l.toArray false) Q E w :=
  fun a ha => wpIn_region_ls (by simpa using h a ha)

section
variable {X : Cx} {ops : Array Oper} {Q : Exit → Act → World → Prop} {E : Env} {w : World} {rest : List Oper}

theorem Run.nil (h : At X Q .normal E w) : Run X ops Q [] E w := h

theorem Run.weak {E' : Env} {l : List Oper} (hs : E'.sub E) (h : Run X ops Q l E' w) : Run X ops Q l E w := fun a ha => h a (ha.weak hs)

/-- What guard number j reads. -/
def guardTmp (ops : Array Oper) (j : Nat) : Option Tmp := (ops[j]?).bind (·.dst)

theorem wanted_env {a : Act} {o : Oper} {j : Nat} {want b : Bool} {t : Tmp} (ha : Fits X E a) (hg : o.guard = some (j, want)) (ht : guardTmp ops j = some t) (hb : E.get? t = some (.bool b)) :
    Region.wanted o (yielded ops a.tmps) = (b == want) := by
  have h1 := ha.get t _ hb
  unfold guardTmp at ht
  simp [Region.wanted, hg, yielded, ht, h1]

/-- Does a guard let the operation be: asked of what is known. -/
def gst (ops : Array Oper) (g : Option (Nat × Bool)) (E : Env) : Option Bool := match g with
  | none => some true
  | some (j, want) => match guardTmp ops j with
    | none => none
    | some t => match Env.get? E t with
      | some (.bool b) => some (b == want)
      | _ => none

theorem gst_wanted {a : Act} {o : Oper} {b : Bool} (ha : Fits X E a) (hg : gst ops o.guard E = some b) : Region.wanted o (yielded ops a.tmps) = b := by
  unfold gst at hg
  cases ho : o.guard with
  | none => rw [ho] at hg; simp at hg; subst hg; simp [Region.wanted, ho]
  | some jw =>
    obtain ⟨j, want⟩ := jw
    rw [ho] at hg
    simp only at hg
    cases ht : guardTmp ops j with
    | none => rw [ht] at hg; simp at hg
    | some t =>
      rw [ht] at hg
      simp only at hg
      split at hg
      · rename_i c hc
        simp at hg
        subst hg
        exact wanted_env ha ho ht hc
      · simp at hg

theorem Fits.case {E : Env} {a : Act} (ha : Fits X E a) {t : Nat} {b : Bool} (hb : E.get? t = some (.bool b)) {c : Bool} (hc : b = c) : Fits X ((t, .bool c) :: E) a := by
  subst hc
  refine ⟨ha.size, ha.defers, fun s v hs => ?_⟩
  unfold Env.get? at hs
  cases hbq : Nat.beq t s with
  | true => rw [hbq] at hs; obtain rfl : t = s := Nat.eq_of_beq_eq_true hbq; simp at hs; subst hs; exact ha.get t _ hb
  | false => rw [hbq] at hs; exact ha.get s v hs

theorem Run.split {l : List Oper} {t : Nat} {b : Bool} (hb : E.get? t = some (.bool b)) (ht : b = true → Run X ops Q l ((t, .bool true) :: E) w) (hf : b = false → Run X ops Q l ((t, .bool false) :: E) w) : Run X ops Q l E w := by
  intro a ha
  cases hbc : b with
  | true => exact ht hbc a (ha.case hb hbc)
  | false => exact hf hbc a (ha.case hb hbc)

/-- A value operation: what it yields, the world behind it. -/
def Ev (X : Cx) (op : Op) (ty : TypeId) (E : Env) (w : World) (v : Value) (w' : World) : Prop :=
  (∀ c, op ≠ .defer c) ∧ ∀ a, Fits X E a → ∀ (d : Option Nat) (pos : String) (aft : Array Edge) (g : Option (Nat × Bool)), (execOp a.eval ⟨d, op, ty, pos, aft, g⟩).run P w = .ok (.value v) w'

/-- An operation: what follows (K), what follows a panic (Kp). -/
def Stp (X : Cx) (o : Oper) (E : Env) (w : World) (K : Env → World → Prop) (Kp : List PanicEntry → World → Prop) : Prop :=
  ∀ a, Fits X E a → ∀ g, Oper.wpIn (Wd X.ro) 0 P { o with guard := g } a w (fun a' w' => ∃ E', Fits X E' a' ∧ K E' w') (fun e a' w' => ∃ c, e = .panic c ∧ a' = a ∧ Kp c w')

theorem wpIn_two {ro : Option Nat} {o : Oper} {a : Act} {w : World} {K K' : Act → World → Prop} {Q Q' : Exit → Act → World → Prop} (h : ∀ a w, K a w → K' a w) (hq : ∀ c a w, Q (.panic c) a w → Q' (.panic c) a w) (hl : ∀ a w, ¬ Q .outgrown a w)
    (hh : o.wpIn (Wd ro) 0 P a w K Q) : o.wpIn (Wd ro) 0 P a w K' Q' := by
  unfold Oper.wpIn at *
  refine ⟨hh.1, ?_⟩
  have hh := hh.2
  generalize (o.semAt (Wd ro).round a.eval).run P w = r at *
  have hlets : LetsOut Q → LetsOut Q' := fun ⟨a, w, h⟩ => absurd h (hl a w)
  cases r with
  | ok x w' =>
    cases x <;> simp only [Oper.uponIn] at hh ⊢ <;>
      first
        | exact h _ _ hh
        | exact ⟨hh.1, CallsIn.mono hh.2 (fun e w'' he => by cases e <;> first | exact h _ _ he | exact hq _ _ _ he | exact hlets he)⟩
        | exact ⟨hh.1, RowsIn.mono hh.2 (fun _ _ he => h _ _ he)⟩
        | exact ⟨hh.1, RoundIn.mono hh.2 (fun e w'' he => by cases e <;> first | exact h _ _ he | exact hq _ _ _ he | exact hlets he)⟩
  | halt x w' => cases x <;> simp only [Oper.uponIn] at hh ⊢ <;> first | exact hq _ _ _ hh | exact hh

theorem Run.step {o : Oper} (hg : gst ops o.guard E = some true) (h : Stp X o E w (fun E' w' => Run X ops Q rest E' w') (fun c w' => At X Q (.panic c) E w')) : Run X ops Q (o :: rest) E w := by
  intro a ha
  simp only [wpLs]
  rw [if_pos (gst_wanted ha hg)]
  refine wpIn_two ?_ ?_ ?_ (h a ha o.guard)
  · rintro a' w' ⟨E', hE, hr⟩; exact hr a' hE
  · rintro c a' w' ⟨c', hc, rfl, hp⟩; cases hc; exact hp a' ha
  · rintro a' w' ⟨c', hc, _⟩; cases hc

theorem Run.ev {d : Nat} {op : Op} {ty : TypeId} {pos : String} {aft : Array Edge} {g : Option (Nat × Bool)} {v : Value} (he : Ev X op ty E w v w) (hg : gst ops g E = some true) (hd : Nat.blt d X.N = true)
    (h : Run X ops Q rest ((d, v) :: E) w) : Run X ops Q (⟨some d, op, ty, pos, aft, g⟩ :: rest) E w := by
  intro a ha
  simp only [wpLs]
  rw [if_pos (gst_wanted (o := ⟨some d, op, ty, pos, aft, g⟩) ha hg)]
  refine ⟨fun _ _ => trivial, ?_⟩
  rw [Oper.semAt_eq _ _ _ he.1, he.2 a ha]
  exact h _ (ha.put hd)

theorem Run.off {d : Nat} {op : Op} {ty : TypeId} {pos : String} {aft : Array Edge} {g : Option (Nat × Bool)} (hg : gst ops g E = some false) (hd : Nat.blt d X.N = true)
    (h : Run X ops Q rest ((d, undef) :: E) w) : Run X ops Q (⟨some d, op, ty, pos, aft, g⟩ :: rest) E w := by
  intro a ha
  simp only [wpLs]
  rw [gst_wanted (o := ⟨some d, op, ty, pos, aft, g⟩) ha hg]
  exact h _ (ha.put hd)

theorem Stp.ev {d : Option Nat} {op : Op} {ty : TypeId} {pos : String} {aft : Array Edge} {g : Option (Nat × Bool)} {v : Value} {w' : World} {K : Env → World → Prop} {Kp : List PanicEntry → World → Prop} {E' : Env} (he : Ev X op ty E w v w') (hE : ∀ a, Fits X E a → Fits X E' (a.put d v)) (h : K E' w') :
    Stp X ⟨d, op, ty, pos, aft, g⟩ E w K Kp := by
  intro a ha g'
  refine ⟨fun _ _ => trivial, ?_⟩
  rw [Oper.semAt_eq _ _ _ he.1, he.2 a ha]
  exact ⟨E', hE a ha, h⟩

theorem Stp.skp {d : Option Nat} {op : Op} {ty : TypeId} {pos : String} {aft : Array Edge} {g : Option (Nat × Bool)} {w' : World} {K : Env → World → Prop} {Kp : List PanicEntry → World → Prop} {E' : Env}
    (hnd : ∀ c, op ≠ .defer c) (hs : ∀ a, Fits X E a → ∀ (g : Option (Nat × Bool)), (execOp a.eval ⟨d, op, ty, pos, aft, g⟩).run P w = .ok .skip w')
    (hE : ∀ a, Fits X E a → Fits X E' (a.put d undef)) (h : K E' w') : Stp X ⟨d, op, ty, pos, aft, g⟩ E w K Kp := by
  intro a ha g'
  refine ⟨fun _ _ => trivial, ?_⟩
  rw [Oper.semAt_eq _ _ _ hnd, hs a ha g']
  exact ⟨E', hE a ha, h⟩

theorem Stp.val {d : Option Nat} {op : Op} {ty : TypeId} {pos : String} {aft : Array Edge} {g : Option (Nat × Bool)} {v : Value} {w' : World} {K : Env → World → Prop} {Kp : List PanicEntry → World → Prop} {E' : Env}
    (hnd : ∀ c, op ≠ .defer c) (hs : ∀ a, Fits X E a → ∀ (g : Option (Nat × Bool)), (execOp a.eval ⟨d, op, ty, pos, aft, g⟩).run P w = .ok (.value v) w')
    (hE : ∀ a, Fits X E a → Fits X E' (a.put d v)) (h : K E' w') : Stp X ⟨d, op, ty, pos, aft, g⟩ E w K Kp := by
  intro a ha g'
  refine ⟨fun _ _ => trivial, ?_⟩
  rw [Oper.semAt_eq _ _ _ hnd, hs a ha g']
  exact ⟨E', hE a ha, h⟩

/-- A call. -/
theorem Stp.enter {d : Option Nat} {op : Op} {ty : TypeId} {pos : String} {aft : Array Edge} {g : Option (Nat × Bool)} {f : FuncId} {args : Array Value} {w' : World} {R : Ending → World → Prop} {E' : Value → Env} {K : Env → World → Prop} {Kp : List PanicEntry → World → Prop}
    (hnd : ∀ c, op ≠ .defer c) (hs : ∀ a, Fits X E a → ∀ (g : Option (Nat × Bool)), (execOp a.eval ⟨d, op, ty, pos, aft, g⟩).run P w = .ok (.enter f args) w')
    (hc : CallsIn (Wd X.ro) 0 P f args w' R) (hE : ∀ a v, Fits X E a → Fits X (E' v) (a.put d v))
    (h : ∀ v w'', R (.returned v) w'' → K (E' v) w'') (hp : ∀ c w'', R (.panicked c) w'' → Kp c w'') (ho : ∀ w'', ¬ R .outgrown w'') :
    Stp X ⟨d, op, ty, pos, aft, g⟩ E w K Kp := by
  intro a ha g'
  refine ⟨fun _ _ => trivial, ?_⟩
  rw [Oper.semAt_eq _ _ _ hnd, hs a ha g']
  refine ⟨wd_depth, hc.mono ?_⟩
  intro e w'' hr
  cases e with
  | returned v => exact ⟨_, hE a v ha, h v w'' hr⟩
  | panicked c => exact ⟨c, rfl, rfl, hp c w'' hr⟩
  | outgrown => exact absurd hr (ho w'')

/-- A panic of the operation itself. -/
theorem Stp.panics {d : Option Nat} {op : Op} {ty : TypeId} {pos : String} {aft : Array Edge} {g : Option (Nat × Bool)} {v : Value} {w' : World} {K : Env → World → Prop} {Kp : List PanicEntry → World → Prop}
    (hnd : ∀ c, op ≠ .defer c) (hs : ∀ a, Fits X E a → ∀ (g : Option (Nat × Bool)), (execOp a.eval ⟨d, op, ty, pos, aft, g⟩).run P w = .halt (.panic v) w') (h : Kp [{ v, recovered := false }] w') : Stp X ⟨d, op, ty, pos, aft, g⟩ E w K Kp := by
  intro a ha g'
  refine ⟨fun _ _ => trivial, ?_⟩
  rw [Oper.semAt_eq _ _ _ hnd, hs a ha g']
  exact ⟨_, rfl, rfl, h⟩
end
end Go.Proofs.YtlcgeepjekcfgaaGreat
