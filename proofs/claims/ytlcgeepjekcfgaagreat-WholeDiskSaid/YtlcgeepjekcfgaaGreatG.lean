/- Numbers as bytes: the plain functions, and the walks of digits and number. -/
import Derived.Test.YtlcgeepjekcfgaaGreatT
namespace Go.Proofs.YtlcgeepjekcfgaaGreat
open Go.RowKit
set_option linter.unusedVariables false

abbrev byteV (c : UInt8) : Value := .int .u8 (c.toNat : Int)

/-- The k low bytes of n, the most significant first. -/
def be (n : Nat) : Nat → Bs
  | 0 => []
  | k + 1 => UInt8.ofNat (n / 256 ^ k) :: be n k
theorem be_length (n k : Nat) : (be n k).length = k := by induction k <;> simp [be, *]

def unbe (l : Bs) : Nat := l.foldl (fun n c => n * 256 + c.toNat) 0

theorem own_block {w : World} {e b n : Nat} {xs : List Value} (h : w.ownsRow 0 e 1 (.slice (some ⟨b, 0, none⟩) n n) n xs) : ∃ cs : Array Value, w.heap[b]? = some (.cells cs e (0, 0)) ∧ cs.toList = xs := by
  rcases h.2 with ⟨h0, _⟩ | ⟨g, cap, cur, hv, _, hg, _, _, hs, ht⟩
  · cases h0
  · cases hv
    refine ⟨cur, hg, ?_⟩
    rw [← ht, List.take_of_length_le (by simp [hs])]

theorem block_sl {w : World} {e b : Nat} {cs : Array Value} {fr : Nat × Nat} (h : w.heap[b]? = some (.cells cs e fr)) (hm : cs.size ≤ maxLen) : Sl w e 1 (.slice (some ⟨b, 0, none⟩) cs.size cs.size) cs.size cs.toList :=
  ⟨by simp, _, _, rfl, Nat.le_refl _, hm, .inr ⟨b, 0, cs, fr, rfl, h, by simp; exact List.take_of_length_le (by simp)⟩⟩

section
variable {X : Cx} {E : Env} {w : World} {ty : TypeId}
theorem Ev.shr8 {x : Operand} {m : Int} {t u : TypeId} (hx : E.ev x = some (.int .i64 m)) : Ev X (.binOp .shr t x (.const (.int .u64 8)) u) ty E w (.int .i64 (m / 256)) w :=
  ⟨(by intro c e; cases e), fun a ha d pos aft g => by
    have : m.fdiv 256 = m / 256 := Int.fdiv_eq_ediv_of_nonneg m (by omega)
    have hy : a.eval (.const (.int .u64 8)) = .int .u64 8 := rfl
    simp [execOp, ha.ev hx, hy, eqGuard, binOp, Op.shift, IntKind.bits, this]⟩
theorem Ev.shl8 {x : Operand} {m : Int} {t u : TypeId} (hx : E.ev x = some (.int .i64 m)) (h : 0 ≤ m ∧ m * 256 ≤ 9223372036854775807) : Ev X (.binOp .shl t x (.const (.int .u64 8)) u) ty E w (.int .i64 (m * 256)) w :=
  ⟨(by intro c e; cases e), fun a ha d pos aft g => by
    have : IntKind.i64.wrap (m * 256) = m * 256 := i64_in (by omega)
    have hy : a.eval (.const (.int .u64 8)) = .int .u64 8 := rfl
    simp [execOp, ha.ev hx, hy, eqGuard, binOp, Op.shift, IntKind.bits, this]⟩
theorem or_low (m n : Nat) (hm : m < 2 ^ 48) (hn : n < 256) : (BitVec.ofInt 64 ((m : Int) * 256) ||| BitVec.ofInt 64 (n : Int)).toNat = m * 256 + n := by
  have e1 : BitVec.ofInt 64 ((m : Int) * 256) = BitVec.ofNat 64 (m * 256) := by rw [← BitVec.ofInt_natCast]; congr 1
  have e2 : BitVec.ofInt 64 (n : Int) = BitVec.ofNat 64 n := by rw [← BitVec.ofInt_natCast]
  rw [e1, e2, BitVec.toNat_or, BitVec.toNat_ofNat, BitVec.toNat_ofNat, Nat.mod_eq_of_lt (by omega), Nat.mod_eq_of_lt (by omega)]
  rw [show m * 256 = 2 ^ 8 * m from by omega, ← Nat.two_pow_add_eq_or_of_lt (by omega)]
theorem Ev.orlow {x y : Operand} {m n : Nat} {t u : TypeId} (hx : E.ev x = some (.int .i64 ((m : Int) * 256))) (hy : E.ev y = some (.int .i64 (n : Int))) (hm : m < 2 ^ 48) (hn : n < 256) : Ev X (.binOp .or t x y u) ty E w (.int .i64 ((m * 256 + n : Nat) : Int)) w :=
  ⟨(by intro c e; cases e), fun a ha d pos aft g => by
    have h := or_low m n hm hn
    have h2 : IntKind.i64.wrap ((m * 256 + n : Nat) : Int) = ((m * 256 + n : Nat) : Int) := i64_in (by omega)
    show Sem.run P ((eqGuard .or t x y (a.eval x) (a.eval y) >>= fun _ => binOp .or t (a.eval x) (a.eval y)) >>= fun r => pure (Next.value r)) w = _
    rw [ha.ev hx, ha.ev hy]
    show Sem.run P (pure (Next.value (Value.int .i64 (IntKind.i64.wrap (((BitVec.ofInt 64 ((m : Int) * 256) ||| BitVec.ofInt 64 (n : Int)).toNat : Nat) : Int))))) w = _
    rw [h, h2]
    rfl⟩
end

theorem div_pow_step (n j : Nat) : ((n / 256 ^ j : Nat) : Int) / 256 = ((n / 256 ^ (j + 1) : Nat) : Int) := by
  rw [Nat.pow_succ, ← Nat.div_div_eq_div_mul]; rfl
theorem mod_byte (n j : Nat) : Value.int .u8 (((n / 256 ^ j : Nat) : Int) % 256) = byteV (UInt8.ofNat (n / 256 ^ j)) := by
  simp [byteV]

theorem digits_calls (n k : Nat) (w : World) (hk : k ≤ 8) (hn : n < 2 ^ 62) : Calls P 45 [.int .i64 (n : Int), .int .i64 (k : Int)].toArray w (Ret fun v w' => v = str (be n k) ∧ Kt No w w') := by
  refine enterW 24 Tryz.func45 rfl rfl rfl ?_
  refine W.seq ?_
  -- region 0 (layout.go:39)
  refine W.region ?_
  refine Run.ev (Ev.assign rfl) rfl rfl ?_   -- t4
  refine Run.nil ?_
  refine At.then ?_
  refine W.seq ?_
  -- region 1 (layout.go:40)
  refine W.region ?_
  refine Run.ev (Ev.move rfl) rfl rfl ?_   -- t7
  refine Run.step rfl (Stp.makeSlice (n := k) Tryz.underlying22 ei_5 rfl rfl rfl (by omega) (by omega) rfl ?_)   -- t8 
  intro a8 w8 e8 k8 b8 z8
  refine Run.ev (Ev.assign rfl) rfl rfl ?_   -- t5
  refine Run.nil ?_
  refine At.then ?_
  refine W.seq ?_
  refine W.seq ?_
  -- region 2 (layout.go:41)
  refine W.region ?_
  refine Run.ev (Ev.move rfl) rfl rfl ?_   -- t9
  refine Run.ev (Ev.sub rfl rfl (by omega)) rfl rfl ?_   -- t10
  refine Run.ev (Ev.assign rfl) rfl rfl ?_   -- t6
  refine Run.nil ?_
  refine At.then ?_
  refine W.block ?_
  obtain ⟨cs8, hb8, hc8⟩ := own_block b8
  refine W.loop (fun (j : Nat) => [(0, .int .i64 ((n / 256 ^ j : Nat) : Int)), (5, .slice (some ⟨a8, 0, none⟩) k k), (6, .int .i64 ((k : Int) - 1 - j))])
    (fun j w' => j ≤ k ∧ Kt No w w' ∧ ∃ cs : Array Value, w'.heap[a8]? = some (.cells cs 5 (0, 0)) ∧ cs.toList = (List.replicate (k - j) 0 ++ be n j).map byteV) (fun j => k - j) 0
    ⟨Nat.zero_le _, k8, cs8, hb8, by rw [hc8]; simp [be]⟩
    (Env.sub_cons (by simp [Env.get?, argEnv]) (Env.sub_cons rfl (Env.sub_cons (by simp [Env.get?]) (Env.sub_nil _)))) ?_
  rintro j w1 ⟨hj, hk1, cs, hb, hcs⟩
  refine W.seq ?_
  refine W.seq ?_
  -- region 3 (layout.go:41)
  refine W.region ?_
  refine Run.ev (Ev.move rfl) rfl rfl ?_   -- t11
  refine Run.ev (Ev.geq rfl rfl rfl) rfl rfl ?_   -- t12
  refine Run.nil ?_
  refine At.then ?_
  refine W.cond rfl (fun hc => ?_) (fun hc => ?_)   -- ('t', 12)
  · have hc' := of_decide_eq_true hc
    have hlt : j < k := by omega
    have hlen : cs.size = k := by have := congrArg List.length hcs; simp [be_length] at this; omega
    refine W.skip ?_
    refine At.then ?_
    refine W.seq ?_
    refine W.block ?_
    refine W.seq ?_
    -- region 5 (layout.go:42)
    refine W.region ?_
    refine Run.ev (Ev.move rfl) rfl rfl ?_   -- t15
    refine Run.ev (Ev.move rfl) rfl rfl ?_   -- t16
    refine Run.ev (Ev.move rfl) rfl rfl ?_   -- t17
    refine Run.ev (Ev.conv_b Tryz.underlying3 Tryz.underlying5 rfl) rfl rfl ?_   -- t18
    refine Run.ev (Ev.indexAddr Tryz.underlying22 es_5 rfl rfl (by omega) rfl) rfl rfl ?_   -- t19
    refine Run.step rfl (Stp.store sc_5 sz_5 rfl rfl rfl hb (by omega) ?_)   -- tNone 
    intro wS5 kS5 bS5 zS5
    refine Run.nil ?_
    refine At.then ?_
    -- region 6 (layout.go:43)
    refine W.region ?_
    refine Run.ev (Ev.move rfl) rfl rfl ?_   -- t20
    refine Run.ev (Ev.shr8 rfl) rfl rfl ?_   -- t21
    refine Run.ev (Ev.assign rfl) rfl rfl ?_   -- t0
    refine Run.nil ?_
    refine At.block ?_
    refine At.then ?_
    -- region 4 (layout.go:41)
    refine W.region ?_
    refine Run.ev (Ev.move rfl) rfl rfl ?_   -- t13
    refine Run.ev (Ev.sub rfl rfl (by omega)) rfl rfl ?_   -- t14
    refine Run.ev (Ev.assign rfl) rfl rfl ?_   -- t6
    refine Run.nil ?_
    have hge := e8
    refine At.round (j + 1) (Env.sub_cons ?_ (Env.sub_cons rfl (Env.sub_cons ?_ (Env.sub_nil _)))) ⟨by omega, hk1.new kS5 (by rintro i rfl; omega), _, bS5, ?_⟩ (by omega)
    · simp only [Env.get?]; rw [← div_pow_step]
    · simp only [Env.get?]; congr 2; omega
    · simp only [Array.toList_setIfInBounds, hcs, mod_byte]
      have h1 : (0 + ((k : Int) - 1 - j).toNat * 1) = k - 1 - j := by omega
      rw [h1]
      have h2 : k - j = (k - 1 - j) + 1 := by omega
      have h3 : k - (j + 1) = k - 1 - j := by omega
      rw [h2, h3, List.replicate_succ', be]
      simp
  · have hc' := of_decide_eq_false hc
    obtain rfl : j = k := by omega
    refine W.exit ?_
    refine At.then_exit ?_
    refine At.then_exit ?_
    refine At.block_here ?_
    refine At.then ?_
    refine W.seq ?_
    -- region 7 (layout.go:45)
    refine W.region ?_
    refine Run.ev (Ev.move rfl) rfl rfl ?_   -- t22
    have hsz : cs.size = j := by have := congrArg List.length hcs; simp [be_length] at this; omega
    have hsl := block_sl hb (by unfold maxLen; omega)
    rw [hsz, hcs] at hsl
    refine Run.ev (Ev.ofBytes (s := be n j) Tryz.underlying22 Tryz.underlying5 Tryz.underlying9 rfl (by simpa using hsl)) rfl rfl ?_   -- t23
    refine Run.ev (Ev.assign rfl) rfl rfl ?_   -- t4
    refine Run.nil ?_
    refine At.then ?_
    refine W.ret ?_
    exact At.ret1 rfl rfl rfl ⟨rfl, hk1⟩
end Go.Proofs.YtlcgeepjekcfgaaGreat
