/- The rules of single operations, over the base: copies, numbers, comparisons, strings, structs by address, loads and stores. -/
import Derived.Test.YtlcgeepjekcfgaaGreatA
namespace Go.Proofs.YtlcgeepjekcfgaaGreat
open Go.RowKit
set_option linter.unusedVariables false
set_option linter.unusedSimpArgs false

abbrev Bs := List UInt8
/-- A string of these bytes. -/
def str (l : Bs) : Value := .string ⟨l.toArray⟩

theorem i64_in {n : Int} (h : -9223372036854775808 ≤ n ∧ n ≤ 9223372036854775807) : IntKind.i64.wrap n = n := by
  simp only [IntKind.wrap, IntKind.bits, IntKind.signed]
  simp
  omega
theorem u8_wrap (n : Int) : IntKind.u8.wrap n = n % 256 := by
  simp [IntKind.wrap, IntKind.bits, IntKind.signed]

theorem bytes_toList (l : Bs) : (⟨l.toArray⟩ : ByteArray).toList = l := by
  rw [ByteArray.toList_eq]
theorem beqd (p q : Bs) : (p == q) = decide (p = q) := by rw [Bool.eq_iff_iff]; simp
theorem bytes_append (a b : Bs) : (⟨a.toArray⟩ : ByteArray) ++ ⟨b.toArray⟩ = ⟨(a ++ b).toArray⟩ := by
  apply ByteArray.ext
  simp
theorem bytes_size (l : Bs) : (⟨l.toArray⟩ : ByteArray).size = l.length := by simp [ByteArray.size]

section
variable {X : Cx} {E : Env} {w : World} {ty : TypeId}


theorem Ev.move {x : Operand} {v : Value} (hx : E.ev x = some v) : Ev X (.move x) ty E w (v) w :=
  ⟨(by intro c e; cases e), fun a ha d pos aft g => by show Sem.run P (pure (Next.value (a.eval x))) w = _; rw [ha.ev hx]; rfl⟩

theorem Ev.assign {x : Operand} {v : Value} (hx : E.ev x = some v) : Ev X (.assign x) ty E w (v) w :=
  ⟨(by intro c e; cases e), fun a ha d pos aft g => by show Sem.run P (pure (Next.value (a.eval x))) w = _; rw [ha.ev hx]; rfl⟩

theorem Ev.pick_t {c x y : Operand} {v : Value} (hc : E.ev c = some (.bool true)) (hx : E.ev x = some v) : Ev X (.pick c x y) ty E w (v) w :=
  ⟨(by intro c e; cases e), fun a ha d pos aft g => by simp [execOp, ha.ev hc, ha.ev hx, asBool]⟩

theorem Ev.pick_f {c x y : Operand} {v : Value} (hc : E.ev c = some (.bool false)) (hx : E.ev y = some v) : Ev X (.pick c x y) ty E w (v) w :=
  ⟨(by intro c e; cases e), fun a ha d pos aft g => by simp [execOp, ha.ev hc, ha.ev hx, asBool]⟩

theorem Ev.not {x : Operand} {b : Bool} {t : TypeId} (hx : E.ev x = some (.bool b)) : Ev X (.unOp .not t x) ty E w (.bool (!b)) w :=
  ⟨(by intro c e; cases e), fun a ha d pos aft g => by simp [execOp, ha.ev hx, Op.unary]⟩

theorem Ev.neg {x : Operand} {n : Int} {t : TypeId} (hx : E.ev x = some (.int .i64 n)) (hr : -9223372036854775808 ≤ -n ∧ -n ≤ 9223372036854775807) : Ev X (.unOp .neg t x) ty E w (.int .i64 (-n)) w :=
  ⟨(by intro c e; cases e), fun a ha d pos aft g => by simp [execOp, ha.ev hx, Op.unary, Op.intArith, i64_in hr]⟩

theorem Ev.add {x y : Operand} {m n : Int} {t u : TypeId} (hx : E.ev x = some (.int .i64 m)) (hy : E.ev y = some (.int .i64 n)) (hr : -9223372036854775808 ≤ m + n ∧ m + n ≤ 9223372036854775807) : Ev X (.binOp .add t x y u) ty E w (.int .i64 (m + n)) w :=
  ⟨(by intro c e; cases e), fun a ha d pos aft g => by simp [execOp, ha.ev hx, ha.ev hy, eqGuard, binOp, Op.intArith, i64_in hr]⟩

theorem Ev.sub {x y : Operand} {m n : Int} {t u : TypeId} (hx : E.ev x = some (.int .i64 m)) (hy : E.ev y = some (.int .i64 n)) (hr : -9223372036854775808 ≤ m - n ∧ m - n ≤ 9223372036854775807) : Ev X (.binOp .sub t x y u) ty E w (.int .i64 (m - n)) w :=
  ⟨(by intro c e; cases e), fun a ha d pos aft g => by simp [execOp, ha.ev hx, ha.ev hy, eqGuard, binOp, Op.intArith, i64_in hr]⟩

theorem Ev.mul {x y : Operand} {m n : Int} {t u : TypeId} (hx : E.ev x = some (.int .i64 m)) (hy : E.ev y = some (.int .i64 n)) (hr : -9223372036854775808 ≤ m * n ∧ m * n ≤ 9223372036854775807) : Ev X (.binOp .mul t x y u) ty E w (.int .i64 (m * n)) w :=
  ⟨(by intro c e; cases e), fun a ha d pos aft g => by simp [execOp, ha.ev hx, ha.ev hy, eqGuard, binOp, Op.intArith, i64_in hr]⟩

theorem Ev.quo {x y : Operand} {m n : Int} {t u : TypeId} (hx : E.ev x = some (.int .i64 m)) (hy : E.ev y = some (.int .i64 n)) (hr : 0 ≤ m ∧ 0 < n ∧ m ≤ 9223372036854775807) : Ev X (.binOp .quo t x y u) ty E w (.int .i64 (m / n)) w :=
  ⟨(by intro c e; cases e), fun a ha d pos aft g => by have h1 : m.tdiv n = m / n := Int.tdiv_eq_ediv_of_nonneg hr.1; have h2 : m / n ≤ m := Int.ediv_le_self n hr.1; have h3 : 0 ≤ m / n := Int.ediv_nonneg hr.1 (by omega); have h0 : n ≠ 0 := (by omega); simp [execOp, ha.ev hx, ha.ev hy, eqGuard, binOp, Op.intDiv, h1, h0, i64_in (n := m / n) (by omega)]⟩

theorem Ev.rem {x y : Operand} {m n : Int} {t u : TypeId} (hx : E.ev x = some (.int .i64 m)) (hy : E.ev y = some (.int .i64 n)) (hr : 0 ≤ m ∧ 0 < n) : Ev X (.binOp .rem t x y u) ty E w (.int .i64 (m % n)) w :=
  ⟨(by intro c e; cases e), fun a ha d pos aft g => by have h1 : m.tmod n = m % n := Int.tmod_eq_emod_of_nonneg hr.1; have h0 : n ≠ 0 := (by omega); simp [execOp, ha.ev hx, ha.ev hy, eqGuard, binOp, Op.intDiv, h1, h0]⟩

theorem Ev.lss {x y : Operand} {m n : Int} {k : IntKind} {t u : TypeId} {b : Bool} (hx : E.ev x = some (.int k m)) (hy : E.ev y = some (.int k n)) (hb : decide (m < n) = b) : Ev X (.binOp .lss t x y u) ty E w (.bool b) w :=
  ⟨(by intro c e; cases e), fun a ha d pos aft g => by subst hb; simp [execOp, ha.ev hx, ha.ev hy, eqGuard, binOp, Op.intCmp]⟩

theorem Ev.leq {x y : Operand} {m n : Int} {k : IntKind} {t u : TypeId} {b : Bool} (hx : E.ev x = some (.int k m)) (hy : E.ev y = some (.int k n)) (hb : decide (m ≤ n) = b) : Ev X (.binOp .leq t x y u) ty E w (.bool b) w :=
  ⟨(by intro c e; cases e), fun a ha d pos aft g => by subst hb; simp [execOp, ha.ev hx, ha.ev hy, eqGuard, binOp, Op.intCmp]⟩

theorem Ev.gtr {x y : Operand} {m n : Int} {k : IntKind} {t u : TypeId} {b : Bool} (hx : E.ev x = some (.int k m)) (hy : E.ev y = some (.int k n)) (hb : decide (m > n) = b) : Ev X (.binOp .gtr t x y u) ty E w (.bool b) w :=
  ⟨(by intro c e; cases e), fun a ha d pos aft g => by subst hb; simp [execOp, ha.ev hx, ha.ev hy, eqGuard, binOp, Op.intCmp]⟩

theorem Ev.geq {x y : Operand} {m n : Int} {k : IntKind} {t u : TypeId} {b : Bool} (hx : E.ev x = some (.int k m)) (hy : E.ev y = some (.int k n)) (hb : decide (m ≥ n) = b) : Ev X (.binOp .geq t x y u) ty E w (.bool b) w :=
  ⟨(by intro c e; cases e), fun a ha d pos aft g => by subst hb; simp [execOp, ha.ev hx, ha.ev hy, eqGuard, binOp, Op.intCmp]⟩

theorem Ev.eql {x y : Operand} {m n : Int} {k : IntKind} {t u : TypeId} {b : Bool} (hx : E.ev x = some (.int k m)) (hy : E.ev y = some (.int k n)) (hb : decide (m = n) = b) : Ev X (.binOp .eql t x y u) ty E w (.bool b) w :=
  ⟨(by intro c e; cases e), fun a ha d pos aft g => by subst hb; simp [execOp, ha.ev hx, ha.ev hy, eqGuard, binOp, Op.intCmp] <;> rfl⟩

theorem Ev.neq {x y : Operand} {m n : Int} {k : IntKind} {t u : TypeId} {b : Bool} (hx : E.ev x = some (.int k m)) (hy : E.ev y = some (.int k n)) (hb : (!decide (m = n)) = b) : Ev X (.binOp .neq t x y u) ty E w (.bool b) w :=
  ⟨(by intro c e; cases e), fun a ha d pos aft g => by subst hb; simp [execOp, ha.ev hx, ha.ev hy, eqGuard, binOp, Op.intCmp] <;> rfl⟩

theorem Ev.sadd {x y : Operand} {p q : Bs} {t u : TypeId} (hx : E.ev x = some (str p)) (hy : E.ev y = some (str q)) (hr : p.length + q.length ≤ 9223372036854775807) : Ev X (.binOp .add t x y u) ty E w (str (p ++ q)) w :=
  ⟨(by intro c e; cases e), fun a ha d pos aft g => by have hr' : ¬ ((9223372036854775807 : Int) < (p.length : Int) + q.length) := (by omega); simp [execOp, ha.ev hx, ha.ev hy, eqGuard, binOp, Op.stringOp, str, bytes_append, bytes_size, IntKind.max, IntKind.bits, IntKind.signed, hr']⟩

theorem Ev.seql {x y : Operand} {p q : Bs} {t u : TypeId} {b : Bool} (hx : E.ev x = some (str p)) (hy : E.ev y = some (str q)) (hb : decide (p = q) = b) : Ev X (.binOp .eql t x y u) ty E w (.bool b) w :=
  ⟨(by intro c e; cases e), fun a ha d pos aft g => by subst hb; simp [execOp, ha.ev hx, ha.ev hy, eqGuard, binOp, Op.stringOp, str, bytes_toList, beqd]⟩

theorem Ev.sneq {x y : Operand} {p q : Bs} {t u : TypeId} {b : Bool} (hx : E.ev x = some (str p)) (hy : E.ev y = some (str q)) (hb : (!decide (p = q)) = b) : Ev X (.binOp .neq t x y u) ty E w (.bool b) w :=
  ⟨(by intro c e; cases e), fun a ha d pos aft g => by subst hb; simp [execOp, ha.ev hx, ha.ev hy, eqGuard, binOp, Op.stringOp, str, bytes_toList, beqd]⟩

theorem Ev.slss {x y : Operand} {p q : Bs} {t u : TypeId} {b : Bool} (hx : E.ev x = some (str p)) (hy : E.ev y = some (str q)) (hb : Op.bytesLess p q = b) : Ev X (.binOp .lss t x y u) ty E w (.bool b) w :=
  ⟨(by intro c e; cases e), fun a ha d pos aft g => by subst hb; simp [execOp, ha.ev hx, ha.ev hy, eqGuard, binOp, Op.stringOp, str, bytes_toList, beqd]⟩

theorem Ev.sgtr {x y : Operand} {p q : Bs} {t u : TypeId} {b : Bool} (hx : E.ev x = some (str p)) (hy : E.ev y = some (str q)) (hb : (!(Op.bytesLess p q || decide (p = q))) = b) : Ev X (.binOp .gtr t x y u) ty E w (.bool b) w :=
  ⟨(by intro c e; cases e), fun a ha d pos aft g => by subst hb; simp [execOp, ha.ev hx, ha.ev hy, eqGuard, binOp, Op.stringOp, str, bytes_toList, beqd]⟩

theorem Ev.extract {x : Operand} {k : Nat} {vs : Array Value} {v : Value} (hx : E.ev x = some (.tuple vs)) (hv : vs[k]? = some v) : Ev X (.extract x k) ty E w (v) w :=
  ⟨(by intro c e; cases e), fun a ha d pos aft g => by simp [execOp, ha.ev hx, Instr.extract, hv]⟩

theorem Ev.nilCheck {x : Operand} {p : Addr} (hx : E.ev x = some (.pointer (some p))) : Ev X (.nilCheck x) ty E w (.pointer (some p)) w :=
  ⟨(by intro c e; cases e), fun a ha d pos aft g => by simp [execOp, ha.ev hx]⟩

theorem Ev.slen {x : Operand} {p : Bs} {cs : TypeId} (hx : E.ev x = some (str p)) (ht : P.underlying cs = some .string) : Ev X (.call { callee := .builtin .len, args := #[x], argTypes := #[cs] }) ty E w (.int .i64 (p.length : Int)) w :=
  ⟨(by intro c e; cases e), fun a ha d pos aft g => by simp [execOp, ha.ev hx, resolve, invoke, builtin, Builtin.len_, run_underlying ht, str, goInt, bytes_size]⟩

theorem Ev.len {x : Operand} {p : Option Addr} {n c : Nat} {cs e : TypeId} (hx : E.ev x = some (.slice p n c)) (ht : P.underlying cs = some (.slice e)) : Ev X (.call { callee := .builtin .len, args := #[x], argTypes := #[cs] }) ty E w (.int .i64 (n : Int)) w :=
  ⟨(by intro c e; cases e), fun a ha d pos aft g => by simp [execOp, ha.ev hx, resolve, invoke, builtin, Builtin.len_, run_underlying ht, goInt]⟩

theorem Ev.conv_i {x : Operand} {n : Int} {k : IntKind} {s : TypeId} {ds : TypeDesc} {t : TypeId} (hs : P.underlying s = some ds) (ht : P.underlying t = some (.int .i64)) (hx : E.ev x = some (.int k n)) (hr : -9223372036854775808 ≤ n ∧ n ≤ 9223372036854775807) : Ev X (.convert s t x) ty E w (.int .i64 n) w :=
  ⟨(by intro c e; cases e), fun a ha d pos aft g => by simp [execOp, ha.ev hx, convert, run_underlying hs, run_underlying ht, Conv.intToInt, i64_in hr]⟩

theorem Ev.conv_b {x : Operand} {n : Int} {k : IntKind} {s : TypeId} {ds : TypeDesc} {t : TypeId} (hs : P.underlying s = some ds) (ht : P.underlying t = some (.int .u8)) (hx : E.ev x = some (.int k n)) : Ev X (.convert s t x) ty E w (.int .u8 (n % 256)) w :=
  ⟨(by intro c e; cases e), fun a ha d pos aft g => by simp [execOp, ha.ev hx, convert, run_underlying hs, run_underlying ht, Conv.intToInt, u8_wrap]⟩

theorem Ev.mkfunc {fn : Fn} {cs : Array Operand} {vs : List Value} (hx : E.evs cs.toList = some vs) : Ev X (.makeFunc fn #[] cs) ty E w (.func fn #[] vs.toArray) w :=
  ⟨(by intro c e; cases e), fun a ha d pos aft g => by have := ha.evs hx; have e : cs.map a.eval = vs.toArray := Array.toList_inj.1 (by simpa using this); simp [execOp, Instr.makeFunc, e]⟩

end
end Go.Proofs.YtlcgeepjekcfgaaGreat
