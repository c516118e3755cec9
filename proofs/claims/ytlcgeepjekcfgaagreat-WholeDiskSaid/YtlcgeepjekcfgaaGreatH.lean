/- Small functions of the disk: numbers, checksums, pages. -/
import Derived.Test.YtlcgeepjekcfgaaGreatG
import Derived.Test.YtlcgeepjekcfgaaGreatShelf
namespace Go.Proofs.YtlcgeepjekcfgaaGreat
open Go.RowKit
set_option linter.unusedVariables false
set_option linter.unusedSimpArgs false


theorem Sl.cell1 {w : World} {e sz b off n cap : Nat} {xs : List Value} (h : Sl w e sz (.slice (some ⟨b, off, none⟩) n cap) n xs) {j : Nat} {u : Value} (hu : xs[j]? = some u) {m : Nat} (hm : m = off + j) : w.cell? ⟨b, m, none⟩ = some u := by
  obtain ⟨b', off', hp, hc⟩ := h.cell hu
  cases hp; subst hm; exact hc
theorem Sl.ptr {w : World} {e sz n cap : Nat} {p : Option Addr} {xs : List Value} (h : Sl w e sz (.slice p n cap) n xs) (hn : 0 < n) : ∃ b off, p = some ⟨b, off, none⟩ := by
  obtain ⟨_, p', cap', hv, _, _, h4⟩ := h
  cases hv
  rcases h4 with h4 | ⟨b, off, _, _, rfl, _⟩
  · omega
  · exact ⟨b, off, rfl⟩

/-- What reading a disk panics with. -/
def brk : List PanicEntry := [{ v := .iface 82 (.agg #[]), recovered := false }]
/-- It returns what r is some of, or it panics so. -/
def RetO {α : Type} (S : Nat → Prop) (w : World) (r : Option α) (f : α → Value → World → Prop) : Ending → World → Prop
  | .returned v, w' => ∃ x, r = some x ∧ f x v w'
  | .panicked c, w' => r = none ∧ c = brk ∧ Kt S w w'
  | .outgrown, _ => False

section
variable {X : Cx} {Q : Exit → Act → World → Prop} {E : Env} {w : World} {d : Nat} {ty : TypeId} {pos : String} {aft : Array Edge} {g : Option (Nat × Bool)} {K : Env → World → Prop} {Kp : List PanicEntry → World → Prop}
theorem At.then_panic {K : Act → World → Prop} {c : List PanicEntry} (h : At X Q (.panic c) E w) : At X (Exit.then K Q) (.panic c) E w := h
theorem At.block_panic {id : Nat} {c : List PanicEntry} (h : At X Q (.panic c) E w) : At X (Exit.inBlock id Q) (.panic c) E w := h
theorem At.pan {fn : Func} {α : Type} {S : Nat → Prop} {w0 : World} {r : Option α} {f : α → Value → World → Prop} (hd : X.ds = []) (hr : r = none) (hk : Kt S w0 w) : At X (bodyPost P fn (RetO S w0 r f)) (.panic brk) E w :=
  At.panicked hd ⟨hr, rfl, hk⟩
theorem Stp.callo {α : Type} {S : Nat → Prop} {r : Option α} {f : α → Value → World → Prop} {k : FuncId} {args : Array Operand} {ats : Array TypeId} {vs : List Value} (hen : Enters P k) (hx : E.evs args.toList = some vs)
    (hc : Calls P k vs.toArray w (RetO S w r f)) (hd : Nat.blt d X.N = true) (hp : r = none → ∀ w', Kt S w w' → Kp brk w') (h : ∀ x v w', r = some x → f x v w' → K ((d, v) :: E) w') :
    Stp X ⟨some d, .call { callee := .value (.func k), args := args, argTypes := ats }, ty, pos, aft, g⟩ E w K Kp :=
  Stp.call (R := RetO S w r f) hen hx hc hd (fun v w' ⟨x, h1, h2⟩ => h x v w' h1 h2) (fun c w' ⟨h1, h2, h3⟩ => h2 ▸ hp h1 w' h3) (fun _ h => h.elim)
/-- A call whose value is not looked at. -/
theorem Stp.callo_none {α : Type} {S : Nat → Prop} {r : Option α} {f : α → Value → World → Prop} {k : FuncId} {args : Array Operand} {ats : Array TypeId} {vs : List Value} (hen : Enters P k) (hx : E.evs args.toList = some vs)
    (hc : Calls P k vs.toArray w (RetO S w r f)) (hp : r = none → ∀ w', Kt S w w' → Kp brk w') (h : ∀ x v w', r = some x → f x v w' → K E w') :
    Stp X ⟨none, .call { callee := .value (.func k), args := args, argTypes := ats }, ty, pos, aft, g⟩ E w K Kp :=
  Stp.enter (R := RetO S w r f) (f := k) (args := vs.toArray) (w' := w) (E' := fun _ => E) (by intro c e; cases e) (fun a ha g => by
      have hx' := ha.evs hx
      have e : args.map a.eval = vs.toArray := Array.toList_inj.1 (by simpa using hx')
      have he := hen vs.toArray w
      simp [execOp, resolve, Act.eval, Deferred.ofValue, invoke, e, he]) (by
      cases hro : X.ro with
      | none => exact callsIn_wide.2 hc
      | some l => exact CallsIn.inRound l (callsIn_wide.2 hc)) (fun a v ha => ha.put_none) (fun v w' ⟨x, h1, h2⟩ => h x v w' h1 h2) (fun c w' ⟨h1, h2, h3⟩ => h2 ▸ hp h1 w' h3) (fun _ h => h.elim)
end

theorem snocRec {α : Type} {p : List α → Prop} (h0 : p []) (h1 : ∀ l c, p l → p (l ++ [c])) (l : List α) : p l := by
  have : p l.reverse.reverse := by
    induction l.reverse with
    | nil => exact h0
    | cons x r ih => rw [List.reverse_cons]; exact h1 _ _ ih
  rwa [List.reverse_reverse] at this
section
variable {X : Cx} {E : Env} {w : World} {ty : TypeId}
theorem Ev.to {op : Op} {v v' : Value} {w' : World} (h : v = v') (he : Ev X op ty E w v w') : Ev X op ty E w v' w' := h ▸ he
theorem Ev.subN {x y : Operand} {m n : Nat} {t u : TypeId} (k : Nat) (hx : E.ev x = some (.int .i64 (m : Int))) (hy : E.ev y = some (.int .i64 (n : Int))) (h : m = n + k) (hr : m ≤ 9223372036854775807) : Ev X (.binOp .sub t x y u) ty E w (.int .i64 (k : Int)) w :=
  Ev.to (by congr 1; omega) (Ev.sub hx hy (by omega))
end
theorem unbe_snoc (l : Bs) (c : UInt8) : unbe (l ++ [c]) = unbe l * 256 + c.toNat := by simp [unbe]
theorem unbe_lt (l : Bs) : unbe l < 256 ^ l.length := by
  refine snocRec (p := fun l => unbe l < 256 ^ l.length) (by simp [unbe]) ?_ l
  · intro l c ih
    rw [unbe_snoc, List.length_append, List.length_singleton, Nat.pow_succ]
    have := c.toNat_lt
    omega
theorem maxLen_le : maxLen = 9223372036854775807 := by unfold maxLen; omega
theorem take_snoc {α : Type} {l : List α} {j : Nat} {c : α} (h : l[j]? = some c) : l.take (j + 1) = l.take j ++ [c] := by
  rw [List.take_add_one, h]; rfl

/-- The checksum of Adler. -/
def adlS : Nat × Nat → Bs → Nat × Nat := List.foldl fun p c => ((p.1 + c.toNat) % 65521, (p.2 + (p.1 + c.toNat) % 65521) % 65521)
def adl (l : Bs) : Nat := (adlS (1, 0) l).2 * 65536 + (adlS (1, 0) l).1
theorem adlS_snoc (p : Nat × Nat) (l : Bs) (c : UInt8) : adlS p (l ++ [c]) = (((adlS p l).1 + c.toNat) % 65521, ((adlS p l).2 + ((adlS p l).1 + c.toNat) % 65521) % 65521) := by simp [adlS]
theorem adlS_lt (l : Bs) : (adlS (1, 0) l).1 < 65521 ∧ (adlS (1, 0) l).2 < 65521 := by
  refine snocRec (p := fun l => (adlS (1, 0) l).1 < 65521 ∧ (adlS (1, 0) l).2 < 65521) (by simp [adlS]) ?_ l
  · intro l c ih; rw [adlS_snoc]; exact ⟨Nat.mod_lt _ (by omega), Nat.mod_lt _ (by omega)⟩
theorem adl_lt (l : Bs) : adl l < 2 ^ 32 := by have := adlS_lt l; unfold adl; omega
def sum4 (l : List Bs) : Bs := be (adl l.flatten) 4
def padP (s : Bs) : Bs := s ++ List.replicate (64 - s.length) 0
theorem sum4_length (l : List Bs) : (sum4 l).length = 4 := be_length _ _

theorem number_calls (s : Bs) (w : World) (hs : s.length ≤ 6) : Calls P 40 [str s].toArray w (Ret fun v w' => v = .int .i64 (unbe s : Nat) ∧ Kt No w w') := by
  refine enterW 20 Tryz.func40 rfl rfl rfl ?_
  refine W.seq ?_
  -- region 0 (layout.go:30)
  refine W.region ?_
  refine Run.ev (Ev.assign rfl) rfl rfl ?_   -- t2
  refine Run.nil ?_
  refine At.then ?_
  refine W.seq ?_
  -- region 1 (layout.go:31)
  refine W.region ?_
  refine Run.ev (Ev.assign rfl) rfl rfl ?_   -- t3
  refine Run.nil ?_
  refine At.then ?_
  refine W.seq ?_
  refine W.seq ?_
  -- region 2 (layout.go:32)
  refine W.region ?_
  refine Run.ev (Ev.move rfl) rfl rfl ?_   -- t6
  refine Run.step rfl (Stp.toBytes Tryz.underlying9 Tryz.underlying22 Tryz.underlying5 rfl (by omega) rfl ?_)   -- t7
  intro a7 c7 w7 e7 k7 b7
  refine Run.ev (Ev.len rfl Tryz.underlying22) rfl rfl ?_   -- t8
  refine Run.ev (Ev.move rfl) rfl rfl ?_   -- t9
  refine Run.nil ?_
  refine At.then ?_
  refine W.block ?_
  refine W.loop (fun (j : Nat) => [(3, .int .i64 ((unbe (s.take j) : Nat) : Int)), (7, .slice (some ⟨a7, 0, none⟩) s.length c7), (8, .int .i64 (s.length : Int)), (9, .int .i64 (j : Int))])
    (fun j w' => j ≤ s.length ∧ Kt No w w' ∧ Sl w' 5 1 (.slice (some ⟨a7, 0, none⟩) s.length c7) s.length (s.map byteV)) (fun j => s.length - j) 0 ⟨Nat.zero_le _, k7, b7⟩ (Env.sub_cons rfl (Env.sub_cons rfl (Env.sub_cons rfl (Env.sub_cons rfl (Env.sub_nil _))))) ?_
  rintro j w1 ⟨hj, hk1, bs⟩
  refine W.seq ?_
  -- region 3 (layout.go:32)
  refine W.region ?_
  refine Run.ev (Ev.lss rfl rfl rfl) rfl rfl ?_   -- t10
  refine Run.nil ?_
  refine At.then ?_
  refine W.seq ?_
  refine W.cond rfl (fun hc10 => ?_) (fun hc10 => ?_)
  · replace hc10 := of_decide_eq_true hc10
    obtain ⟨c, hc⟩ : ∃ c, s[j]? = some c := ⟨s[j], List.getElem?_eq_getElem (by omega)⟩
    have hcell := bs.cell1 (j := j) (u := byteV c) (by simp [hc]) (m := 0 + ((j : Nat) : Int).toNat * 1) (by omega)
    refine W.skip ?_
    refine At.then ?_
    refine W.seq ?_
    refine W.block ?_
    refine W.seq ?_
    -- region 4 (layout.go:32)
    refine W.region ?_
    refine Run.ev (Ev.indexAddr Tryz.underlying22 es_5 rfl rfl (by omega) rfl) rfl rfl ?_   -- t11
    refine Run.ev (Ev.load sc_5 rfl hcell) rfl rfl ?_   -- t12
    refine Run.ev (Ev.assign rfl) rfl rfl ?_   -- t5
    refine Run.nil ?_
    refine At.then ?_
    -- region 5 (layout.go:33)
    refine W.region ?_
    refine Run.ev (Ev.move rfl) rfl rfl ?_   -- t13
    refine Run.ev (Ev.shl8 rfl ⟨by omega, by have h1 := unbe_lt (s.take j); have h2 : 256 ^ (s.take j).length ≤ 256 ^ 5 := Nat.pow_le_pow_right (by omega) (by simp; omega); omega⟩) rfl rfl ?_   -- t14
    refine Run.ev (Ev.move rfl) rfl rfl ?_   -- t15
    refine Run.ev (Ev.conv_i Tryz.underlying5 Tryz.underlying3 rfl (by have := c.toNat_lt; omega)) rfl rfl ?_   -- t16
    refine Run.ev (Ev.orlow rfl rfl (by have h1 := unbe_lt (s.take j); have h2 : 256 ^ (s.take j).length ≤ 256 ^ 5 := Nat.pow_le_pow_right (by omega) (by simp; omega); omega) c.toNat_lt) rfl rfl ?_   -- t17
    refine Run.ev (Ev.assign rfl) rfl rfl ?_   -- t3
    refine Run.nil ?_
    refine At.block ?_
    refine At.then ?_
    -- region 6 (layout.go:32)
    refine W.region ?_
    refine Run.ev (Ev.add rfl rfl (by omega)) rfl rfl ?_   -- t18
    refine Run.ev (Ev.move rfl) rfl rfl ?_   -- t9
    refine Run.nil ?_
    exact At.round (j + 1) (Env.sub_cons (by rw [take_snoc hc, unbe_snoc]; rfl) (Env.sub_cons rfl (Env.sub_cons rfl (Env.sub_cons rfl (Env.sub_nil _))))) ⟨by omega, hk1, bs⟩ (by omega)
  · replace hc10 := of_decide_eq_false hc10
    obtain rfl : j = s.length := by omega
    rw [List.take_length]
    refine W.exit ?_
    refine At.then_exit ?_
    refine At.then_exit ?_
    refine At.block_here ?_
    refine At.then ?_
    refine W.seq ?_
    -- region 7 (layout.go:35)
    refine W.region ?_
    refine Run.ev (Ev.move rfl) rfl rfl ?_   -- t19
    refine Run.ev (Ev.assign rfl) rfl rfl ?_   -- t2
    refine Run.nil ?_
    refine At.then ?_
    refine W.ret ?_
    exact At.ret1 rfl rfl rfl ⟨rfl, hk1⟩

theorem need_calls (b : Bool) (w : World) : Calls P 41 [.bool b].toArray w (RetO No w (if b then some () else none) fun _ _ w' => w' = w) := by
  refine enterW 6 Tryz.func41 rfl rfl rfl ?_
  refine W.seq ?_
  -- region 0 (layout.go:24)
  refine W.region ?_
  refine Run.ev (Ev.move rfl) rfl rfl ?_   -- t2
  refine Run.ev (Ev.not rfl) rfl rfl ?_   -- t3
  refine Run.nil ?_
  refine At.then ?_
  refine W.cond rfl (fun hc3 => ?_) (fun hc3 => ?_)
  · -- region 1 (layout.go:25)
    refine W.region ?_
    refine Run.ev (Ev.build (vs := []) (v := .agg #[]) rfl rfl (by kernel_rfl)) rfl rfl ?_   -- t4
    refine Run.ev (Ev.mkiface Tryz.underlying82 (by intro _ e; cases e) rfl) rfl rfl ?_   -- t5
    exact Run.step rfl (Stp.panic rfl (At.pan rfl (by cases b <;> first | rfl | cases hc3) (Kt.refl _ _)))   -- tNone
  · refine W.skip ?_
    exact At.end0 rfl rfl ⟨(), (by cases b <;> first | rfl | cases hc3), rfl⟩


theorem repeat_calls (n : Nat) (w : World) (hn : n ≤ 64) : Calls P 44 [str [0], .int .i64 (n : Int)].toArray w (Ret fun v w' => v = str (List.replicate n 0) ∧ Kt No w w') :=
  Calls.mono (Tryz.strings_Repeat ⟨#[0]⟩ n w (by omega) (by show 1 * n ≤ _; omega)) fun e w' ⟨he, hb⟩ => by
    subst he
    refine ⟨?_, Kt.of_below hb⟩
    simp only [str]
    congr 2
    show (Lib.repeatL [0] n).toArray = _
    have : ∀ n, Lib.repeatL [0] n = List.replicate n 0 := fun n => by
      induction n with
      | zero => rfl
      | succ n ih => simp [Lib.repeatL, ih, List.replicate_succ]
    rw [this]

theorem padded_calls (s : Bs) (w : World) (hs : s.length ≤ 64) : Calls P 18 [str s].toArray w (Ret fun v w' => v = str (padP s) ∧ Kt No w w') := by
  refine enterW 9 Tryz.func18 rfl rfl rfl ?_
  refine W.seq ?_
  -- region 0 (layout.go:52)
  refine W.region ?_
  refine Run.ev (Ev.assign rfl) rfl rfl ?_   -- t2
  refine Run.nil ?_
  refine At.then ?_
  refine W.seq ?_
  -- region 1 (layout.go:52)
  refine W.region ?_
  refine Run.ev (Ev.move rfl) rfl rfl ?_   -- t3
  refine Run.ev (Ev.move rfl) rfl rfl ?_   -- t4
  refine Run.ev (Ev.slen rfl Tryz.underlying9) rfl rfl ?_   -- t5
  refine Run.ev (Ev.subN (m := 64) (64 - s.length) rfl rfl (by omega) (by omega)) rfl rfl ?_   -- t6
  refine Run.step rfl (Stp.callr en_44 rfl (repeat_calls (64 - s.length) w (by omega)) rfl ?_)   -- t7
  rintro v7 w7 ⟨rfl, k7⟩
  refine Run.ev (Ev.sadd rfl rfl (by rw [List.length_replicate]; omega)) rfl rfl ?_   -- t8
  refine Run.ev (Ev.assign rfl) rfl rfl ?_   -- t2
  refine Run.nil ?_
  refine At.then ?_
  refine W.ret ?_
  exact At.ret1 rfl rfl rfl ⟨rfl, k7⟩

theorem Sum_calls (s : Bs) (v : Value) (w : World) (hsl : Sl w 5 1 v s.length (s.map byteV)) : Calls P 70 [v].toArray w (Ret fun v w' => v = .int .i64 (adl s : Nat) ∧ Kt No w w') := by
  obtain ⟨p, cap, rfl, hc1, hc2⟩ := hsl.len
  have hml := maxLen_le
  refine enterW 27 Tryz.func70 rfl rfl rfl ?_
  refine W.seq ?_
  -- region 0 (file.go:14)
  refine W.region ?_
  refine Run.ev (Ev.assign rfl) rfl rfl ?_   -- t2
  refine Run.nil ?_
  refine At.then ?_
  refine W.seq ?_
  -- region 1 (file.go:15)
  refine W.region ?_
  refine Run.ev (Ev.assign rfl) rfl rfl ?_   -- t3
  refine Run.ev (Ev.assign rfl) rfl rfl ?_   -- t4
  refine Run.nil ?_
  refine At.then ?_
  refine W.seq ?_
  refine W.seq ?_
  -- region 2 (file.go:16)
  refine W.region ?_
  refine Run.ev (Ev.move rfl) rfl rfl ?_   -- t7
  refine Run.ev (Ev.len rfl Tryz.underlying22) rfl rfl ?_   -- t8
  refine Run.ev (Ev.move rfl) rfl rfl ?_   -- t9
  refine Run.nil ?_
  refine At.then ?_
  refine W.block ?_
  refine W.loop (fun (j : Nat) => [(3, .int .i64 (((adlS (1, 0) (s.take j)).1 : Nat) : Int)), (4, .int .i64 (((adlS (1, 0) (s.take j)).2 : Nat) : Int)), (7, .slice p s.length cap), (8, .int .i64 (s.length : Int)), (9, .int .i64 (j : Int))])
    (fun j w' => j ≤ s.length ∧ Kt No w w') (fun j => s.length - j) 0 ⟨Nat.zero_le _, Kt.refl _ _⟩ (Env.sub_cons rfl (Env.sub_cons rfl (Env.sub_cons rfl (Env.sub_cons rfl (Env.sub_cons rfl (Env.sub_nil _)))))) ?_
  rintro j w1 ⟨hj, hk1⟩
  have hlt := adlS_lt (s.take j)
  refine W.seq ?_
  -- region 3 (file.go:16)
  refine W.region ?_
  refine Run.ev (Ev.lss rfl rfl rfl) rfl rfl ?_   -- t10
  refine Run.nil ?_
  refine At.then ?_
  refine W.seq ?_
  refine W.cond rfl (fun hc10 => ?_) (fun hc10 => ?_)
  · replace hc10 := of_decide_eq_true hc10
    obtain ⟨c, hc⟩ : ∃ c, s[j]? = some c := ⟨s[j], List.getElem?_eq_getElem (by omega)⟩
    have hcb := c.toNat_lt
    obtain ⟨b, off, rfl⟩ := hsl.ptr (by omega)
    have bs := hsl.kt0 hk1
    have hcell := bs.cell1 (j := j) (u := byteV c) (by simp [hc]) (m := off + ((j : Nat) : Int).toNat * 1) (by omega)
    refine W.skip ?_
    refine At.then ?_
    refine W.seq ?_
    refine W.block ?_
    refine W.seq ?_
    -- region 4 (file.go:16)
    refine W.region ?_
    refine Run.ev (Ev.indexAddr Tryz.underlying22 es_5 rfl rfl (by omega) rfl) rfl rfl ?_   -- t11
    refine Run.ev (Ev.load sc_5 rfl hcell) rfl rfl ?_   -- t12
    refine Run.ev (Ev.assign rfl) rfl rfl ?_   -- t6
    refine Run.nil ?_
    refine At.then ?_
    refine W.seq ?_
    -- region 5 (file.go:17)
    refine W.region ?_
    refine Run.ev (Ev.move rfl) rfl rfl ?_   -- t13
    refine Run.ev (Ev.move rfl) rfl rfl ?_   -- t14
    refine Run.ev (Ev.conv_i Tryz.underlying5 Tryz.underlying3 rfl (by omega)) rfl rfl ?_   -- t15
    refine Run.ev (Ev.add rfl rfl (by omega)) rfl rfl ?_   -- t16
    refine Run.ev (Ev.rem rfl rfl (by omega)) rfl rfl ?_   -- t17
    refine Run.ev (Ev.assign rfl) rfl rfl ?_   -- t3
    refine Run.nil ?_
    refine At.then ?_
    -- region 6 (file.go:18)
    refine W.region ?_
    refine Run.ev (Ev.move rfl) rfl rfl ?_   -- t18
    refine Run.ev (Ev.move rfl) rfl rfl ?_   -- t19
    refine Run.ev (Ev.add rfl rfl (by omega)) rfl rfl ?_   -- t20
    refine Run.ev (Ev.rem rfl rfl (by omega)) rfl rfl ?_   -- t21
    refine Run.ev (Ev.assign rfl) rfl rfl ?_   -- t4
    refine Run.nil ?_
    refine At.block ?_
    refine At.then ?_
    -- region 7 (file.go:16)
    refine W.region ?_
    refine Run.ev (Ev.add rfl rfl (by omega)) rfl rfl ?_   -- t22
    refine Run.ev (Ev.move rfl) rfl rfl ?_   -- t9
    refine Run.nil ?_
    exact At.round (j + 1) (Env.sub_cons (by rw [take_snoc hc, adlS_snoc]; rfl) (Env.sub_cons (by rw [take_snoc hc, adlS_snoc]; rfl) (Env.sub_cons rfl (Env.sub_cons rfl (Env.sub_cons rfl (Env.sub_nil _)))))) ⟨by omega, hk1⟩ (by omega)
  · replace hc10 := of_decide_eq_false hc10
    obtain rfl : j = s.length := by omega
    rw [List.take_length] at hlt
    rw [List.take_length]
    refine W.exit ?_
    refine At.then_exit ?_
    refine At.then_exit ?_
    refine At.block_here ?_
    refine At.then ?_
    refine W.seq ?_
    -- region 8 (file.go:20)
    refine W.region ?_
    refine Run.ev (Ev.move rfl) rfl rfl ?_   -- t23
    refine Run.ev (Ev.mul rfl rfl (by omega)) rfl rfl ?_   -- t24
    refine Run.ev (Ev.move rfl) rfl rfl ?_   -- t25
    refine Run.ev (Ev.add rfl rfl (by omega)) rfl rfl ?_   -- t26
    refine Run.ev (Ev.assign rfl) rfl rfl ?_   -- t2
    refine Run.nil ?_
    refine At.then ?_
    refine W.ret ?_
    exact At.ret1 rfl rfl rfl ⟨by simp [adl], hk1⟩


theorem join_calls (l : List Bs) (p : Option Addr) (cap : Nat) (w : World) (h0 : 0 < l.length) (hsl : Sl w 9 1 (.slice p l.length cap) l.length (l.map str)) (hll : l.length ≤ 1000000) (hlen : l.flatten.length ≤ 1000000) :
    Calls P 71 [.slice p l.length cap, str []].toArray w (Ret fun v w' => v = str l.flatten ∧ Kt No w w') := by
  obtain ⟨b, off, rfl⟩ := hsl.ptr h0
  obtain ⟨p', cap', hv, hn, hcap, h4⟩ := hsl.2
  cases hv
  have hb : b < w.heap.size := by
    rcases h4 with h4 | ⟨b', off', cs, fr, hp, hb, _⟩
    · omega
    · cases hp; exact blk_lt hb
  have hj : Lib.join ((l.map fun s => (⟨s.toArray⟩ : ByteArray)).map (·.data.toList)) (ByteArray.mk #[]).data.toList = l.flatten := by
    simp only [Lib.join, List.map_map, Function.comp_def, List.map_id']
    cases l with
    | nil => rfl
    | cons x r => rw [← Lib.join, Lib.join_cons]; simp [Lib.joinTail]
  have := Tryz.strings_Join b off cap (l.map fun s => ⟨s.toArray⟩) ⟨#[]⟩ w (fun j x hx => hsl.cell1 (j := j) (by
    rw [List.getElem?_map] at hx ⊢
    cases hl : l[j]? with
    | none => rw [hl] at hx; cases hx
    | some s => rw [hl] at hx; cases hx; rfl) rfl) hb (by simp; omega) (by simp; omega) (by rw [hj]; omega)
  rw [List.length_map, hj] at this
  exact Calls.mono this fun e w' ⟨he, hb⟩ => by
    subst he
    exact ⟨rfl, Kt.of_below hb⟩

theorem sum_calls (l : List Bs) (v : Value) (w : World) (h0 : 0 < l.length) (hsl : Sl w 9 1 v l.length (l.map str)) (hll : l.length ≤ 1000000) (hlen : l.flatten.length ≤ 1000000) : Calls P 46 [v].toArray w (Ret fun v w' => v = str (sum4 l) ∧ Kt No w w') := by
  obtain ⟨p, cap, rfl, hc1, hc2⟩ := hsl.len
  have hml := maxLen_le
  refine enterW 8 Tryz.func46 rfl rfl rfl ?_
  refine W.seq ?_
  -- region 0 (layout.go:49)
  refine W.region ?_
  refine Run.ev (Ev.assign rfl) rfl rfl ?_   -- t2
  refine Run.nil ?_
  refine At.then ?_
  refine W.seq ?_
  -- region 1 (layout.go:49)
  refine W.region ?_
  refine Run.ev (Ev.move rfl) rfl rfl ?_   -- t3
  refine Run.step rfl (Stp.callr en_71 rfl (join_calls l _ _ w h0 hsl hll hlen) rfl ?_)   -- t4
  rintro v4 w4 ⟨rfl, k4⟩
  refine Run.step rfl (Stp.toBytes Tryz.underlying9 Tryz.underlying22 Tryz.underlying5 rfl (by omega) rfl ?_)   -- t5
  intro a5 c5 w5 e5 k5 b5
  refine Run.step rfl (Stp.callr en_70 rfl (Sum_calls _ _ _ b5) rfl ?_)   -- t6
  rintro v6 w6 ⟨rfl, k6⟩
  refine Run.step rfl (Stp.callr en_45 rfl (digits_calls _ 4 _ (by omega) (by have := adl_lt l.flatten; omega)) rfl ?_)   -- t7
  rintro v7 w7 ⟨rfl, k7⟩
  refine Run.ev (Ev.assign rfl) rfl rfl ?_   -- t2
  refine Run.nil ?_
  refine At.then ?_
  refine W.ret ?_
  exact At.ret1 rfl rfl rfl ⟨rfl, ((k4.no k5).no k6).no k7⟩

end Go.Proofs.YtlcgeepjekcfgaaGreat
