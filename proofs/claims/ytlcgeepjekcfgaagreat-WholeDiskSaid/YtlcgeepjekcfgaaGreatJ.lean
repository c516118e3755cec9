/- Names, pages, chains: the small functions. -/
import Derived.Test.YtlcgeepjekcfgaaGreatI
namespace Go.Proofs.YtlcgeepjekcfgaaGreat
open Go.RowKit
set_option linter.unusedVariables false
set_option linter.unusedSimpArgs false


def isDiskP (l : List Bs) : Bool := decide (l.length = 256) && decide (∀ s ∈ l, s.length = 64)
def letterB (c : UInt8) : Bool := decide ((c.toNat : Int) ≥ 97) && decide ((c.toNat : Int) ≤ 122)
def otherB (c : UInt8) : Bool := decide ((c.toNat : Int) ≥ 48) && decide ((c.toNat : Int) ≤ 57) || decide ((c.toNat : Int) = 46)
def nameC (i : Nat) (c : UInt8) : Bool := letterB c || (decide (i ≠ 0) && otherB c)
def isNameP (s : Bs) : Bool := decide (s ≠ [] ∧ s.length ≤ 16 ∧ ∀ i (h : i < s.length), nameC i s[i] = true)
def piecesP (s : Bs) : List Bs := if h : 57 < s.length then s.take 57 :: piecesP (s.drop 57) else if s = [] then [] else [s]
termination_by s.length
decreasing_by simp; omega
def linkP (next : Nat) (data : Bs) : Bs := padP (be next 2 ++ be data.length 1 ++ sum4 [be next 2 ++ be data.length 1, data] ++ data)
def natv (n : Nat) : Value := .int .i64 (n : Int)
def digP (n : Nat) : Bs := if h : n < 10 then [UInt8.ofNat (48 + n)] else digP (n / 10) ++ digP (n % 10)
termination_by n
decreasing_by all_goals omega
def fillP (n b : Nat) : Bs := (List.range n).map fun i => UInt8.ofNat (b + i * (b % 7 + 1))
theorem upto {α : Type} {p : Nat → α → Prop} {l : List α} {j : Nat} {c : α} (h : ∀ i x, i < j → l[i]? = some x → p i x) (hc : l[j]? = some c) (hp : p j c) : ∀ i x, i < j + 1 → l[i]? = some x → p i x := by
  intro i x hi hx
  rcases Nat.lt_succ_iff_lt_or_eq.1 hi with hi | rfl
  · exact h i x hi hx
  · rw [hc] at hx; cases hx; exact hp
theorem str_cells (s : Bs) : (str s).cells.toList = [str s] := rfl
theorem str_one (s : Bs) : ∀ u ∈ (str s).cells.toList, u.oneCell' = true := by intro u hu; rw [str_cells] at hu; simp at hu; subst hu; rfl
section
variable {X : Cx} {E : Env} {w : World} {ty : TypeId}
theorem Ev.addN {x y : Operand} {m n : Nat} {t u : TypeId} (hx : E.ev x = some (.int .i64 (m : Int))) (hy : E.ev y = some (.int .i64 (n : Int))) (hr : m + n ≤ 9223372036854775807) : Ev X (.binOp .add t x y u) ty E w (.int .i64 ((m + n : Nat) : Int)) w :=
  Ev.to (by congr 1) (Ev.add hx hy (by omega))
theorem Ev.mulN {x y : Operand} {m n : Nat} {t u : TypeId} (hx : E.ev x = some (.int .i64 (m : Int))) (hy : E.ev y = some (.int .i64 (n : Int))) (hr : m * n ≤ 9223372036854775807) : Ev X (.binOp .mul t x y u) ty E w (.int .i64 ((m * n : Nat) : Int)) w :=
  Ev.to (by congr 1) (Ev.mul hx hy (by rw [← Int.natCast_mul]; omega))
theorem Ev.conv_bN {x : Operand} {n : Nat} {k : IntKind} {s : TypeId} {ds : TypeDesc} {t : TypeId} (hs : P.underlying s = some ds) (ht : P.underlying t = some (.int .u8)) (hx : E.ev x = some (.int k (n : Int))) : Ev X (.convert s t x) ty E w (byteV (UInt8.ofNat n)) w :=
  Ev.to (by simp [byteV]) (Ev.conv_b hs ht hx)
end
theorem byte_in (c : UInt8) : (0 : Int) ≤ (c.toNat : Int) ∧ (c.toNat : Int) < 256 := by have := c.toNat_lt; omega

theorem isDisk_calls (l : List Bs) (v : Value) (w : World) (hsl : Sl w 9 1 v l.length (l.map str)) : Calls P 14 [v].toArray w (Ret fun v w' => v = .bool (isDiskP l) ∧ Kt No w w') := by
  obtain ⟨p, cap, rfl, hc1, hc2⟩ := hsl.len
  have hml := maxLen_le
  refine enterW 18 Tryz.func14 rfl rfl rfl ?_
  refine W.seq ?_
  -- region 0 (layout.go:55)
  refine W.region ?_
  refine Run.ev (Ev.assign rfl) rfl rfl ?_   -- t2
  refine Run.nil ?_
  refine At.then ?_
  refine W.seq ?_
  refine W.seq ?_
  -- region 1 (layout.go:56)
  refine W.region ?_
  refine Run.ev (Ev.move rfl) rfl rfl ?_   -- t5
  refine Run.ev (Ev.len rfl Tryz.underlying34) rfl rfl ?_   -- t6
  refine Run.ev (Ev.neq rfl rfl rfl) rfl rfl ?_   -- t7
  refine Run.nil ?_
  refine At.then ?_
  refine W.cond rfl (fun hc7 => ?_) (fun hc7 => ?_)
  · have hr : isDiskP l = false := by
          simp only [Bool.not_eq_true', decide_eq_false_iff_not] at hc7
          unfold isDiskP
          rw [Bool.and_eq_false_iff]; left; simp; omega
    refine W.seq ?_
    -- region 2 (layout.go:57)
    refine W.region ?_
    refine Run.ev (Ev.assign rfl) rfl rfl ?_   -- t2
    refine Run.nil ?_
    refine At.then ?_
    refine W.ret ?_
    refine At.then_ret ?_
    exact At.ret1 rfl rfl rfl ⟨by rw [hr], Kt.refl _ _⟩
  · have hl : l.length = 256 := by
          simp at hc7
          omega
    refine W.skip ?_
    refine At.then ?_
    refine W.seq ?_
    refine W.seq ?_
    -- region 3 (layout.go:59)
    refine W.region ?_
    refine Run.ev (Ev.move rfl) rfl rfl ?_   -- t8
    refine Run.ev (Ev.len rfl Tryz.underlying34) rfl rfl ?_   -- t9
    refine Run.ev (Ev.move rfl) rfl rfl ?_   -- t10
    refine Run.nil ?_
    refine At.then ?_
    refine W.block ?_
    refine W.loop (fun (j : Nat) => [(8, .slice p l.length cap), (9, .int .i64 (l.length : Int)), (10, .int .i64 (j : Int))])
      (fun j w' => j ≤ l.length ∧ Kt No w w' ∧ ∀ i (s : Bs), i < j → l[i]? = some s → s.length = 64) (fun j => l.length - j) 0 ⟨Nat.zero_le _, Kt.refl _ _, fun i s h => by omega⟩ (Env.sub_cons rfl (Env.sub_cons rfl (Env.sub_cons rfl (Env.sub_nil _)))) ?_
    rintro j w1 ⟨hj, hk1, hall⟩
    refine W.seq ?_
    -- region 4 (layout.go:59)
    refine W.region ?_
    refine Run.ev (Ev.lss rfl rfl rfl) rfl rfl ?_   -- t11
    refine Run.nil ?_
    refine At.then ?_
    refine W.seq ?_
    refine W.cond rfl (fun hc11 => ?_) (fun hc11 => ?_)
    · replace hc11 := of_decide_eq_true hc11
      obtain ⟨s, hs⟩ : ∃ s, l[j]? = some s := ⟨l[j], List.getElem?_eq_getElem (by omega)⟩
      obtain ⟨b, off, rfl⟩ := hsl.ptr (by omega)
      have bs := hsl.kt0 hk1
      have hcell := bs.cell1 (j := j) (u := str s) (by simp [hs]) (m := off + ((j : Nat) : Int).toNat * 1) (by omega)
      refine W.skip ?_
      refine At.then ?_
      refine W.seq ?_
      refine W.block ?_
      refine W.seq ?_
      -- region 5 (layout.go:59)
      refine W.region ?_
      refine Run.ev (Ev.indexAddr Tryz.underlying34 es_9 rfl rfl (by omega) rfl) rfl rfl ?_   -- t12
      refine Run.ev (Ev.load sc_9 rfl hcell) rfl rfl ?_   -- t13
      refine Run.ev (Ev.assign rfl) rfl rfl ?_   -- t4
      refine Run.nil ?_
      refine At.then ?_
      refine W.seq ?_
      -- region 6 (layout.go:60)
      refine W.region ?_
      refine Run.ev (Ev.move rfl) rfl rfl ?_   -- t14
      refine Run.ev (Ev.slen rfl Tryz.underlying9) rfl rfl ?_   -- t15
      refine Run.ev (Ev.neq rfl rfl rfl) rfl rfl ?_   -- t16
      refine Run.nil ?_
      refine At.then ?_
      refine W.cond rfl (fun hc16 => ?_) (fun hc16 => ?_)
      · have hr : isDiskP l = false := by
              unfold isDiskP
              rw [Bool.and_eq_false_iff]; right
              simp only [decide_eq_false_iff_not]
              intro h
              have := h s (List.mem_of_getElem? hs)
              simp at hc16; omega
        refine W.seq ?_
        -- region 7 (layout.go:61)
        refine W.region ?_
        refine Run.ev (Ev.assign rfl) rfl rfl ?_   -- t2
        refine Run.nil ?_
        refine At.then ?_
        refine W.ret ?_
        refine At.block_ret ?_
        refine At.then_ret ?_
        refine At.then_ret ?_
        refine At.block_ret ?_
        refine At.then_ret ?_
        exact At.ret1 rfl rfl rfl ⟨by rw [hr], hk1⟩
      · have h64 : s.length = 64 := by simp at hc16; omega
        refine W.skip ?_
        refine At.block ?_
        refine At.then ?_
        -- region 8 (layout.go:59)
        refine W.region ?_
        refine Run.ev (Ev.add rfl rfl (by omega)) rfl rfl ?_   -- t17
        refine Run.ev (Ev.move rfl) rfl rfl ?_   -- t10
        refine Run.nil ?_
        exact At.round (j + 1) (Env.sub_cons rfl (Env.sub_cons rfl (Env.sub_cons rfl (Env.sub_nil _)))) ⟨by omega, hk1, upto (p := fun _ (s : Bs) => s.length = 64) hall hs h64⟩ (by omega)
    · replace hc11 := of_decide_eq_false hc11
      obtain rfl : j = l.length := by omega
      have hr : isDiskP l = true := by
            unfold isDiskP
            rw [Bool.and_eq_true]
            exact ⟨by simpa using hl, by
              simp only [decide_eq_true_eq]
              intro s hs
              obtain ⟨i, hi, rfl⟩ := List.mem_iff_getElem.1 hs
              exact hall i _ hi (List.getElem?_eq_getElem hi)⟩
      refine W.exit ?_
      refine At.then_exit ?_
      refine At.then_exit ?_
      refine At.block_here ?_
      refine At.then ?_
      refine W.seq ?_
      -- region 9 (layout.go:64)
      refine W.region ?_
      refine Run.ev (Ev.assign rfl) rfl rfl ?_   -- t2
      refine Run.nil ?_
      refine At.then ?_
      refine W.ret ?_
      exact At.ret1 rfl rfl rfl ⟨by rw [hr], hk1⟩

theorem isName_calls (s : Bs) (w : World) (hs : s.length ≤ 1000000) : Calls P 42 [str s].toArray w (Ret fun v w' => v = .bool (isNameP s) ∧ Kt No w w') := by
  have hml := maxLen_le
  refine enterW 49 Tryz.func42 rfl rfl rfl ?_
  refine W.seq ?_
  -- region 0 (layout.go:68)
  refine W.region ?_
  refine Run.ev (Ev.assign rfl) rfl rfl ?_   -- t2
  refine Run.nil ?_
  refine At.then ?_
  refine W.seq ?_
  refine W.seq ?_
  -- region 1 (layout.go:69)
  refine W.region ?_
  refine Run.ev (Ev.move rfl) rfl rfl ?_   -- t7
  refine Run.ev (Ev.seql (q := []) rfl rfl rfl) rfl rfl ?_   -- t8
  refine Run.ev (Ev.move rfl) rfl rfl ?_   -- t9
  refine Run.evg rfl rfl (fun hg => (Ev.move rfl)) rfl ?_   -- t10
  refine Run.evg rfl rfl (fun hg => (Ev.slen (ifp hg) Tryz.underlying9)) rfl ?_   -- t11
  refine Run.evg rfl rfl (fun hg => (Ev.gtr (ifp hg) rfl rfl)) rfl ?_   -- t12
  refine Run.ev (Ev.pick_or rfl rfl rfl) rfl rfl ?_   -- t13
  refine Run.nil ?_
  refine At.then ?_
  refine W.cond rfl (fun hc13 => ?_) (fun hc13 => ?_)
  · have hr : isNameP s = false := by
          unfold isNameP
          simp only [decide_eq_false_iff_not]
          rintro ⟨h1, h2, _⟩
          simp at hc13
          rcases hc13 with h | h
          · exact h1 h
          · omega
    refine W.seq ?_
    -- region 2 (layout.go:70)
    refine W.region ?_
    refine Run.ev (Ev.assign rfl) rfl rfl ?_   -- t2
    refine Run.nil ?_
    refine At.then ?_
    refine W.ret ?_
    refine At.then_ret ?_
    exact At.ret1 rfl rfl rfl ⟨by rw [hr], Kt.refl _ _⟩
  · have hl : s ≠ [] ∧ s.length ≤ 16 := by
          simp at hc13
          exact ⟨hc13.1, by omega⟩
    refine W.skip ?_
    refine At.then ?_
    refine W.seq ?_
    refine W.seq ?_
    -- region 3 (layout.go:72)
    refine W.region ?_
    refine Run.ev (Ev.move rfl) rfl rfl ?_   -- t14
    refine Run.step rfl (Stp.toBytes Tryz.underlying9 Tryz.underlying22 Tryz.underlying5 rfl (by omega) rfl ?_)   -- t15
    intro a15 c15 w15 e15 k15 b15
    refine Run.ev (Ev.len rfl Tryz.underlying22) rfl rfl ?_   -- t16
    refine Run.ev (Ev.move rfl) rfl rfl ?_   -- t17
    refine Run.nil ?_
    refine At.then ?_
    refine W.block ?_
    refine W.loop (fun (j : Nat) => [(15, .slice (some ⟨a15, 0, none⟩) s.length c15), (16, .int .i64 (s.length : Int)), (17, .int .i64 (j : Int))])
      (fun j w' => j ≤ s.length ∧ Kt No w w' ∧ Sl w' 5 1 (.slice (some ⟨a15, 0, none⟩) s.length c15) s.length (s.map byteV) ∧ ∀ i c, i < j → s[i]? = some c → nameC i c = true) (fun j => s.length - j) 0 ⟨Nat.zero_le _, k15, b15, fun i c h => by omega⟩ (Env.sub_cons rfl (Env.sub_cons rfl (Env.sub_cons rfl (Env.sub_nil _)))) ?_
    rintro j w1 ⟨hj, hk1, bs, hall⟩
    refine W.seq ?_
    -- region 4 (layout.go:72)
    refine W.region ?_
    refine Run.ev (Ev.lss rfl rfl rfl) rfl rfl ?_   -- t18
    refine Run.nil ?_
    refine At.then ?_
    refine W.seq ?_
    refine W.cond rfl (fun hc18 => ?_) (fun hc18 => ?_)
    · replace hc18 := of_decide_eq_true hc18
      obtain ⟨c, hc⟩ : ∃ c, s[j]? = some c := ⟨s[j], List.getElem?_eq_getElem (by omega)⟩
      have hcell := bs.cell1 (j := j) (u := byteV c) (by simp [hc]) (m := 0 + ((j : Nat) : Int).toNat * 1) (by omega)
      refine W.skip ?_
      refine At.then ?_
      refine W.seq ?_
      refine W.block ?_
      refine W.seq ?_
      -- region 5 (layout.go:72)
      refine W.region ?_
      refine Run.ev (Ev.move rfl) rfl rfl ?_   -- t19
      refine Run.ev (Ev.indexAddr Tryz.underlying22 es_5 rfl rfl (by omega) rfl) rfl rfl ?_   -- t20
      refine Run.ev (Ev.load sc_5 rfl hcell) rfl rfl ?_   -- t21
      refine Run.ev (Ev.assign rfl) rfl rfl ?_   -- t3
      refine Run.ev (Ev.assign rfl) rfl rfl ?_   -- t4
      refine Run.nil ?_
      refine At.then ?_
      refine W.seq ?_
      -- region 6 (layout.go:73)
      refine W.region ?_
      refine Run.ev (Ev.move rfl) rfl rfl ?_   -- t22
      refine Run.ev (Ev.geq rfl rfl rfl) rfl rfl ?_   -- t23
      refine Run.ev (Ev.move rfl) rfl rfl ?_   -- t24
      refine Run.evg rfl rfl (fun hg => (Ev.move rfl)) rfl ?_   -- t25
      refine Run.evg rfl rfl (fun hg => (Ev.leq (ifp hg) rfl rfl)) rfl ?_   -- t26
      refine Run.ev (Ev.pick_and rfl rfl rfl) rfl rfl ?_   -- t27
      refine Run.ev (Ev.move rfl) rfl rfl ?_   -- t28
      refine Run.ev (Ev.geq rfl rfl rfl) rfl rfl ?_   -- t29
      refine Run.ev (Ev.move rfl) rfl rfl ?_   -- t30
      refine Run.evg rfl rfl (fun hg => (Ev.move rfl)) rfl ?_   -- t31
      refine Run.evg rfl rfl (fun hg => (Ev.leq (ifp hg) rfl rfl)) rfl ?_   -- t32
      refine Run.ev (Ev.pick_and rfl rfl rfl) rfl rfl ?_   -- t33
      refine Run.ev (Ev.move rfl) rfl rfl ?_   -- t34
      refine Run.evg rfl rfl (fun hg => (Ev.move rfl)) rfl ?_   -- t35
      refine Run.evg rfl rfl (fun hg => (Ev.eql (ifp hg) rfl rfl)) rfl ?_   -- t36
      refine Run.ev (Ev.pick_or rfl rfl rfl) rfl rfl ?_   -- t37
      refine Run.ev (Ev.assign rfl) rfl rfl ?_   -- t5
      refine Run.ev (Ev.assign rfl) rfl rfl ?_   -- t6
      refine Run.nil ?_
      refine At.then ?_
      refine W.seq ?_
      -- region 7 (layout.go:74)
      refine W.region ?_
      refine Run.ev (Ev.move rfl) rfl rfl ?_   -- t38
      refine Run.ev (Ev.not rfl) rfl rfl ?_   -- t39
      refine Run.ev (Ev.move rfl) rfl rfl ?_   -- t40
      refine Run.evg rfl rfl (fun hg => (Ev.move rfl)) rfl ?_   -- t41
      refine Run.evg rfl rfl (fun hg => (Ev.eql (ifp hg) rfl rfl)) rfl ?_   -- t42
      refine Run.evg rfl rfl (fun hg => (Ev.move (ifp hg))) rfl ?_   -- t43
      refine Run.evh rfl rfl (fun hg => (Ev.move rfl)) rfl ?_   -- t44
      refine Run.evh rfl rfl (fun hg => (Ev.not (ifp hg))) rfl ?_   -- t45
      refine Run.evg rfl rfl (fun hg => (Ev.pick_orh hg rfl rfl rfl)) rfl ?_   -- t46
      refine Run.ev (Ev.pick_and rfl rfl rfl) rfl rfl ?_   -- t47
      refine Run.nil ?_
      refine At.then ?_
      refine W.cond rfl (fun hc47 => ?_) (fun hc47 => ?_)
      · have hn : nameC j c = false := by
              simp only [nameC, letterB, otherB]
              simp at hc47 ⊢
              omega
        have hr : isNameP s = false := by
              unfold isNameP
              simp only [decide_eq_false_iff_not]
              rintro ⟨_, _, h⟩
              have hjl : j < s.length := by omega
              have h1 := h j hjl
              rw [List.getElem?_eq_getElem hjl] at hc
              cases hc
              rw [hn] at h1; cases h1
        refine W.seq ?_
        -- region 8 (layout.go:75)
        refine W.region ?_
        refine Run.ev (Ev.assign rfl) rfl rfl ?_   -- t2
        refine Run.nil ?_
        refine At.then ?_
        refine W.ret ?_
        refine At.block_ret ?_
        refine At.then_ret ?_
        refine At.then_ret ?_
        refine At.block_ret ?_
        refine At.then_ret ?_
        exact At.ret1 rfl rfl rfl ⟨by rw [hr], hk1⟩
      · have hn : nameC j c = true := by
              simp only [nameC, letterB, otherB]
              simp at hc47 ⊢
              omega
        refine W.skip ?_
        refine At.block ?_
        refine At.then ?_
        -- region 9 (layout.go:72)
        refine W.region ?_
        refine Run.ev (Ev.add rfl rfl (by omega)) rfl rfl ?_   -- t48
        refine Run.ev (Ev.move rfl) rfl rfl ?_   -- t17
        refine Run.nil ?_
        exact At.round (j + 1) (Env.sub_cons rfl (Env.sub_cons rfl (Env.sub_cons rfl (Env.sub_nil _)))) ⟨by omega, hk1, bs, upto (p := fun i c => nameC i c = true) hall hc hn⟩ (by omega)
    · replace hc18 := of_decide_eq_false hc18
      obtain rfl : j = s.length := by omega
      have hr : isNameP s = true := by
            unfold isNameP
            simp only [decide_eq_true_eq]
            exact ⟨hl.1, hl.2, fun i hi => hall i _ hi (List.getElem?_eq_getElem hi)⟩
      refine W.exit ?_
      refine At.then_exit ?_
      refine At.then_exit ?_
      refine At.block_here ?_
      refine At.then ?_
      refine W.seq ?_
      -- region 10 (layout.go:78)
      refine W.region ?_
      refine Run.ev (Ev.assign rfl) rfl rfl ?_   -- t2
      refine Run.nil ?_
      refine At.then ?_
      refine W.ret ?_
      exact At.ret1 rfl rfl rfl ⟨by rw [hr], hk1⟩

theorem cut_calls (b n : Nat) (s : Bs) (w : World) (hb : w.heap[b]? = some (.cells #[str s] 9 (0, 0))) (hs : s.length ≤ 1000000) (hn : n ≤ 1000000) : Calls P 39 [.pointer (some ⟨b, 0, none⟩), .int .i64 (n : Int)].toArray w (RetO No w (if n ≤ s.length then some () else none) fun _ v w' => v = str (s.take n) ∧ Kt (fun k => k = b) w w' ∧ w'.heap[b]? = some (.cells #[str (s.drop n)] 9 (0, 0)) ∧ w'.heap.size = w.heap.size) := by
  refine enterW 26 Tryz.func39 rfl rfl rfl ?_
  refine W.seq ?_
  -- region 0 (layout.go:155)
  refine W.region ?_
  refine Run.ev (Ev.assign rfl) rfl rfl ?_   -- t4
  refine Run.nil ?_
  refine At.then ?_
  refine W.seq ?_
  -- region 1 (layout.go:156)
  refine W.region ?_
  refine Run.ev (Ev.move rfl) rfl rfl ?_   -- t6
  refine Run.ev (Ev.move rfl) rfl rfl ?_   -- t7
  refine Run.ev (Ev.nilCheck rfl) rfl rfl ?_   -- t8
  refine Run.ev (Ev.load sc_9 rfl (by first | exact cell_of (hb) rfl)) rfl rfl ?_   -- t9
  refine Run.ev (Ev.slen rfl Tryz.underlying9) rfl rfl ?_   -- t10
  refine Run.ev (Ev.leq rfl rfl rfl) rfl rfl ?_   -- t11
  refine Run.step rfl (Stp.callo en_41 rfl (need_calls _ _) rfl (fun hn w' kk => by (repeat (first | apply At.then_panic | apply At.block_panic)); exact At.pan rfl (by rw [if_neg (show ¬ n ≤ s.length by simp at hn; omega)]) (kk)) ?_)   -- t12
  rintro x12 v12 w12 hn rfl
  have hle : n ≤ s.length := by simp at hn; omega
  refine Run.nil ?_
  refine At.then ?_
  refine W.seq ?_
  -- region 2 (layout.go:157)
  refine W.region ?_
  refine Run.ev (Ev.move rfl) rfl rfl ?_   -- t13
  refine Run.ev (Ev.nilCheck rfl) rfl rfl ?_   -- t14
  refine Run.ev (Ev.load sc_9 rfl (by first | exact cell_of (hb) rfl)) rfl rfl ?_   -- t15
  refine Run.ev (Ev.move rfl) rfl rfl ?_   -- t16
  refine Run.ev (Ev.scut (l := 0) (m := n) Tryz.underlying9 rfl (.inl ⟨rfl, rfl⟩) (.inr ⟨_, rfl, rfl⟩) (by omega) (by omega)) rfl rfl ?_   -- t17
  refine Run.ev (Ev.assign rfl) rfl rfl ?_   -- t5
  refine Run.nil ?_
  refine At.then ?_
  refine W.seq ?_
  -- region 3 (layout.go:158)
  refine W.region ?_
  refine Run.ev (Ev.move rfl) rfl rfl ?_   -- t18
  refine Run.ev (Ev.move rfl) rfl rfl ?_   -- t19
  refine Run.ev (Ev.nilCheck rfl) rfl rfl ?_   -- t20
  refine Run.ev (Ev.load sc_9 rfl (by first | exact cell_of (hb) rfl)) rfl rfl ?_   -- t21
  refine Run.ev (Ev.move rfl) rfl rfl ?_   -- t22
  refine Run.ev (Ev.scut (l := n) (m := s.length) Tryz.underlying9 rfl (.inr ⟨_, rfl, rfl⟩) (.inl ⟨rfl, rfl⟩) (by omega) (by omega)) rfl rfl ?_   -- t23
  refine Run.ev (Ev.nilCheck rfl) rfl rfl ?_   -- t24
  refine Run.step rfl (Stp.store sc_9 sz_9 rfl rfl rfl hb (by simp) ?_)   -- tNone
  intro wS kS bS zS
  refine Run.nil ?_
  refine At.then ?_
  refine W.seq ?_
  -- region 4 (layout.go:159)
  refine W.region ?_
  refine Run.ev (Ev.move rfl) rfl rfl ?_   -- t25
  refine Run.ev (Ev.assign rfl) rfl rfl ?_   -- t4
  refine Run.nil ?_
  refine At.then ?_
  refine W.ret ?_
  exact At.ret1 rfl rfl rfl ⟨(), if_pos hle, by simp, kS, by rw [bS]; simp [List.take_of_length_le], zS⟩

theorem pieces_calls (s : Bs) (w : World) (hs : s.length ≤ 1000000) : Calls P 72 [str s].toArray w (Ret fun v w' => w'.ownsRow 0 9 1 v (piecesP s).length ((piecesP s).map str) ∧ Kt No w w' ∧ ∀ k, v.ownBlock = some k → w.heap.size ≤ k) := by
  have hml := maxLen_le
  refine enterW 21 Tryz.func72 rfl rfl rfl ?_
  refine W.seq ?_
  -- region 0 (layout.go:190)
  refine W.region ?_
  refine Run.ev (Ev.assign rfl) rfl rfl ?_   -- t2
  refine Run.nil ?_
  refine At.then ?_
  refine W.seq ?_
  -- region 1 (layout.go:191)
  refine W.region ?_
  refine Run.ev (Ev.assign rfl) rfl rfl ?_   -- t3
  refine Run.nil ?_
  refine At.then ?_
  refine W.seq ?_
  refine W.block ?_
  refine W.loop (fun (x : Value × Nat × List Bs × Bs) => [(0, str x.2.2.2), (3, x.1)])
    (fun x w' => w'.ownsRow 0 9 1 x.1 x.2.2.1.length (x.2.2.1.map str) ∧ Kt No w w' ∧ (∀ k, x.1.ownBlock = some k → w.heap.size ≤ k) ∧ x.2.2.1 ++ piecesP x.2.2.2 = piecesP s ∧ x.2.2.1.length + x.2.2.2.length ≤ s.length) (fun x => x.2.2.2.length) (.slice none 0 0, 0, [], s) ⟨⟨by simp, .inl ⟨rfl, rfl⟩⟩, Kt.refl _ _, (fun k h => by cases h), rfl, by simp⟩ (Env.sub_cons rfl (Env.sub_cons rfl (Env.sub_nil _))) ?_
  rintro ⟨v, _, ps, r⟩ w1 ⟨ho, hk1, hf, hp, hlen⟩
  dsimp only at ho hk1 hf hp hlen
  show W _ _ _ [(0, str r), (3, v)] w1
  refine W.seq ?_
  refine W.seq ?_
  -- region 2 (layout.go:192)
  refine W.region ?_
  refine Run.ev (Ev.move rfl) rfl rfl ?_   -- t4
  refine Run.ev (Ev.slen rfl Tryz.underlying9) rfl rfl ?_   -- t5
  refine Run.ev (Ev.gtr rfl rfl rfl) rfl rfl ?_   -- t6
  refine Run.nil ?_
  refine At.then ?_
  refine W.cond rfl (fun hc6 => ?_) (fun hc6 => ?_)
  · replace hc6 := of_decide_eq_true hc6
    rw [piecesP, dif_pos (by omega)] at hp
    refine W.skip ?_
    refine At.then ?_
    refine W.seq ?_
    refine W.block ?_
    -- region 4 (layout.go:193)
    refine W.region ?_
    refine Run.ev (Ev.move rfl) rfl rfl ?_   -- t9
    refine Run.ev (Ev.move rfl) rfl rfl ?_   -- t10
    refine Run.ev (Ev.scut (l := 0) (m := 57) Tryz.underlying9 rfl (.inl ⟨rfl, rfl⟩) (.inr ⟨_, rfl, rfl⟩) (by omega) (by omega)) rfl rfl ?_   -- t11
    refine Run.step rfl (Stp.bslice1 Tryz.underlying34 ei_9 rfl (by decide) (by decide) rfl rfl rfl ?_)   -- t12
    intro a12 w12 e12 k12 b12 z12
    refine Run.step rfl (Stp.append (n := ps.length) (m := 1) Tryz.underlying34 ei_9 rfl (by decide) rfl rfl (k12.own0 ho) b12 (str_one _) (by omega) (by omega) rfl ?_)   -- t13
    intro v13 w13 o13 k13 n13
    refine Run.ev (Ev.assign rfl) rfl rfl ?_   -- t3
    refine Run.nil ?_
    refine At.block ?_
    refine At.then ?_
    -- region 3 (layout.go:192)
    refine W.region ?_
    refine Run.ev (Ev.move rfl) rfl rfl ?_   -- t7
    refine Run.ev (Ev.scut (l := 57) (m := r.length) Tryz.underlying9 rfl (.inr ⟨_, rfl, rfl⟩) (.inl ⟨rfl, rfl⟩) (by omega) (by omega)) rfl rfl ?_   -- t8
    refine Run.ev (Ev.assign rfl) rfl rfl ?_   -- t0
    refine Run.nil ?_
    exact At.round (v13, 0, ps ++ [r.take 57], r.drop 57) (Env.sub_cons (by simp [Env.get?, List.take_of_length_le]) (Env.sub_cons rfl (Env.sub_nil _))) ⟨by simpa [str_cells] using o13, (hk1.no k12).trans k13 (fun i hi h => absurd (hf i h) (by omega)), (fun k h => (n13 k h).elim (fun h => hf k h) (fun h => by have := hk1.size; omega)), by simpa using hp, by simp; omega⟩ (by show (r.drop 57).length < r.length; simp; omega)
  · replace hc6 := of_decide_eq_false hc6
    rw [piecesP, dif_neg (by omega)] at hp
    refine W.exit ?_
    refine At.then_exit ?_
    refine At.then_exit ?_
    refine At.block_here ?_
    refine At.then ?_
    refine W.seq ?_
    refine W.seq ?_
    -- region 5 (layout.go:195)
    refine W.region ?_
    refine Run.ev (Ev.move rfl) rfl rfl ?_   -- t14
    refine Run.ev (Ev.sneq rfl rfl rfl) rfl rfl ?_   -- t15
    refine Run.nil ?_
    refine At.then ?_
    refine W.cond rfl (fun hc15 => ?_) (fun hc15 => ?_)
    · simp only [Bool.not_eq_true', decide_eq_false_iff_not] at hc15
      rw [if_neg hc15] at hp
      -- region 6 (layout.go:196)
      refine W.region ?_
      refine Run.ev (Ev.move rfl) rfl rfl ?_   -- t16
      refine Run.ev (Ev.move rfl) rfl rfl ?_   -- t17
      refine Run.step rfl (Stp.bslice1 Tryz.underlying34 ei_9 rfl (by decide) (by decide) rfl rfl rfl ?_)   -- t18
      intro a18 w18 e18 k18 b18 z18
      refine Run.step rfl (Stp.append (n := ps.length) (m := 1) Tryz.underlying34 ei_9 rfl (by decide) rfl rfl (k18.own0 ho) b18 (str_one _) (by omega) (by omega) rfl ?_)   -- t19
      intro v19 w19 o19 k19 n19
      refine Run.ev (Ev.assign rfl) rfl rfl ?_   -- t3
      refine Run.nil ?_
      refine At.then ?_
      refine W.seq ?_
      -- region 7 (layout.go:198)
      refine W.region ?_
      refine Run.ev (Ev.move rfl) rfl rfl ?_   -- t20
      refine Run.ev (Ev.assign rfl) rfl rfl ?_   -- t2
      refine Run.nil ?_
      refine At.then ?_
      refine W.ret ?_
      exact At.ret1 rfl rfl rfl ⟨by rw [← hp]; simpa [str_cells] using o19, (hk1.no k18).trans k19 (fun i hi h => absurd (hf i h) (by omega)), fun k h => (n19 k h).elim (fun h => hf k h) (fun h => by have := hk1.size; omega)⟩
    · simp at hc15
      subst hc15
      rw [if_pos rfl] at hp
      refine W.skip ?_
      refine At.then ?_
      refine W.seq ?_
      -- region 7 (layout.go:198)
      refine W.region ?_
      refine Run.ev (Ev.move rfl) rfl rfl ?_   -- t20
      refine Run.ev (Ev.assign rfl) rfl rfl ?_   -- t2
      refine Run.nil ?_
      refine At.then ?_
      refine W.ret ?_
      exact At.ret1 rfl rfl rfl ⟨by rw [← hp]; simpa using ho, hk1, hf⟩

theorem link_calls (next : Nat) (data : Bs) (w : World) (hn : next < 2 ^ 62) (hd : data.length ≤ 57) : Calls P 74 [.int .i64 (next : Int), str data].toArray w (Ret fun v w' => v = str (linkP next data) ∧ Kt No w w') := by
  refine enterW 21 Tryz.func74 rfl rfl rfl ?_
  refine W.seq ?_
  -- region 0 (layout.go:98)
  refine W.region ?_
  refine Run.ev (Ev.assign rfl) rfl rfl ?_   -- t4
  refine Run.nil ?_
  refine At.then ?_
  refine W.seq ?_
  -- region 1 (layout.go:99)
  refine W.region ?_
  refine Run.ev (Ev.move rfl) rfl rfl ?_   -- t6
  refine Run.step rfl (Stp.callr en_45 rfl (digits_calls next 2 _ (by omega) hn) rfl ?_)   -- t7
  rintro v7 w7 ⟨rfl, k7⟩
  refine Run.ev (Ev.move rfl) rfl rfl ?_   -- t8
  refine Run.ev (Ev.slen rfl Tryz.underlying9) rfl rfl ?_   -- t9
  refine Run.step rfl (Stp.callr en_45 rfl (digits_calls data.length 1 _ (by omega) (by omega)) rfl ?_)   -- t10
  rintro v10 w10 ⟨rfl, k10⟩
  refine Run.ev (Ev.sadd rfl rfl (by simp [be_length])) rfl rfl ?_   -- t11
  refine Run.ev (Ev.assign rfl) rfl rfl ?_   -- t5
  refine Run.nil ?_
  refine At.then ?_
  refine W.seq ?_
  -- region 2 (layout.go:100)
  refine W.region ?_
  refine Run.ev (Ev.move rfl) rfl rfl ?_   -- t12
  refine Run.ev (Ev.move rfl) rfl rfl ?_   -- t13
  refine Run.ev (Ev.move rfl) rfl rfl ?_   -- t14
  refine Run.step rfl (Stp.bslice2 Tryz.underlying34 ei_9 rfl rfl rfl rfl rfl rfl ?_)   -- t15
  intro a15 w15 e15 k15 b15 z15
  refine Run.step rfl (Stp.callr en_46 rfl (sum_calls [be next 2 ++ be data.length 1, data] _ _ (by simp) b15 (by simp) (by simp [be_length]; omega)) rfl ?_)   -- t16
  rintro v16 w16 ⟨rfl, k16⟩
  refine Run.ev (Ev.sadd rfl rfl (by simp [be_length, sum4_length])) rfl rfl ?_   -- t17
  refine Run.ev (Ev.move rfl) rfl rfl ?_   -- t18
  refine Run.ev (Ev.sadd rfl rfl (by simp [be_length, sum4_length]; omega)) rfl rfl ?_   -- t19
  refine Run.step rfl (Stp.callr en_18 rfl (padded_calls _ _ (by simp [be_length, sum4_length]; omega)) rfl ?_)   -- t20
  rintro v20 w20 ⟨rfl, k20⟩
  refine Run.ev (Ev.assign rfl) rfl rfl ?_   -- t4
  refine Run.nil ?_
  refine At.then ?_
  refine W.ret ?_
  exact At.ret1 rfl rfl rfl ⟨rfl, (((k7.no k10).no k15).no k16).no k20⟩

theorem begins_calls (l : List Nat) (v : Value) (w : World) (hsl : Sl w 3 1 v l.length (l.map natv)) : Calls P 53 [v].toArray w (Ret fun v w' => v = natv (l.headD 0) ∧ w' = w) := by
  obtain ⟨p, cap, rfl, hc1, hc2⟩ := hsl.len
  have hml := maxLen_le
  refine enterW 9 Tryz.func53 rfl rfl rfl ?_
  refine W.seq ?_
  -- region 0 (layout.go:202)
  refine W.region ?_
  refine Run.ev (Ev.assign rfl) rfl rfl ?_   -- t2
  refine Run.nil ?_
  refine At.then ?_
  refine W.seq ?_
  refine W.seq ?_
  -- region 1 (layout.go:203)
  refine W.region ?_
  refine Run.ev (Ev.move rfl) rfl rfl ?_   -- t3
  refine Run.ev (Ev.len rfl Tryz.underlying48) rfl rfl ?_   -- t4
  refine Run.ev (Ev.eql rfl rfl rfl) rfl rfl ?_   -- t5
  refine Run.nil ?_
  refine At.then ?_
  refine W.cond rfl (fun hc5 => ?_) (fun hc5 => ?_)
  · replace hc5 := of_decide_eq_true hc5
    refine W.seq ?_
    -- region 2 (layout.go:204)
    refine W.region ?_
    refine Run.ev (Ev.assign rfl) rfl rfl ?_   -- t2
    refine Run.nil ?_
    refine At.then ?_
    refine W.ret ?_
    refine At.then_ret ?_
    exact At.ret1 rfl rfl rfl ⟨by cases l with | nil => rfl | cons x r => simp at hc5; omega, rfl⟩
  · replace hc5 := of_decide_eq_false hc5
    obtain ⟨b, off, rfl⟩ := hsl.ptr (by omega)
    obtain ⟨x, r, rfl⟩ : ∃ x r, l = x :: r := by cases l with | nil => simp at hc5 | cons x r => exact ⟨x, r, rfl⟩
    have hcell := hsl.cell1 (j := 0) (u := natv x) rfl (m := off + (0 : Int).toNat * 1) (by omega)
    refine W.skip ?_
    refine At.then ?_
    refine W.seq ?_
    -- region 3 (layout.go:206)
    refine W.region ?_
    refine Run.ev (Ev.move rfl) rfl rfl ?_   -- t6
    refine Run.ev (Ev.indexAddr Tryz.underlying48 es_3 rfl rfl (by omega) rfl) rfl rfl ?_   -- t7
    refine Run.ev (Ev.load sc_3 rfl hcell) rfl rfl ?_   -- t8
    refine Run.ev (Ev.assign rfl) rfl rfl ?_   -- t2
    refine Run.nil ?_
    refine At.then ?_
    refine W.ret ?_
    exact At.ret1 rfl rfl rfl ⟨rfl, rfl⟩

theorem pitChain_calls (n : Nat) (w : World) (hn : n < 2 ^ 62) : Calls P 34 [natv n].toArray w (Ret fun v w' => v = natv ((n + 56) / 57) ∧ w' = w) := by
  refine enterW 6 Tryz.func34 rfl rfl rfl ?_
  refine W.seq ?_
  -- region 0 (new1119.go:1474)
  refine W.region ?_
  refine Run.ev (Ev.assign rfl) rfl rfl ?_   -- t2
  refine Run.nil ?_
  refine At.then ?_
  refine W.seq ?_
  -- region 1 (new1119.go:1474)
  refine W.region ?_
  refine Run.ev (Ev.move rfl) rfl rfl ?_   -- t3
  refine Run.ev (Ev.add rfl rfl (by omega)) rfl rfl ?_   -- t4
  refine Run.ev (Ev.quo rfl rfl (by omega)) rfl rfl ?_   -- t5
  refine Run.ev (Ev.assign rfl) rfl rfl ?_   -- t2
  refine Run.nil ?_
  refine At.then ?_
  refine W.ret ?_
  exact At.ret1 rfl rfl rfl ⟨rfl, rfl⟩


theorem digP_len (n : Nat) : (digP n).length ≤ n + 1 := by
  induction n using Nat.strongRecOn with
  | _ n ih =>
    rw [digP]
    split
    · simp
    · have h1 := ih (n / 10) (by omega)
      have h2 := ih (n % 10) (by omega)
      rw [List.length_append]
      omega

theorem pitDigits_calls (n : Nat) (hn : n < 2 ^ 62) (w : World) : Calls P 20 [natv n].toArray w (Ret fun v w' => v = str (digP n) ∧ w' = w) := by
  induction n using Nat.strongRecOn generalizing w with | _ n ih => ?_
  replace ih := fun m h1 h2 w => ih m h1 h2 w
  refine enterW 22 Tryz.func20 rfl rfl rfl ?_
  refine W.seq ?_
  -- region 0 (new1119.go:102)
  refine W.region ?_
  refine Run.ev (Ev.assign rfl) rfl rfl ?_   -- t2
  refine Run.nil ?_
  refine At.then ?_
  refine W.seq ?_
  refine W.seq ?_
  -- region 1 (new1119.go:103)
  refine W.region ?_
  refine Run.ev (Ev.move rfl) rfl rfl ?_   -- t3
  refine Run.ev (Ev.lss rfl rfl rfl) rfl rfl ?_   -- t4
  refine Run.nil ?_
  refine At.then ?_
  refine W.cond rfl (fun hc4 => ?_) (fun hc4 => ?_)
  · replace hc4 := of_decide_eq_true hc4
    exfalso; omega
  · replace hc4 := of_decide_eq_false hc4
    refine W.skip ?_
    refine At.then ?_
    refine W.seq ?_
    refine W.seq ?_
    -- region 3 (new1119.go:106)
    refine W.region ?_
    refine Run.ev (Ev.move rfl) rfl rfl ?_   -- t9
    refine Run.ev (Ev.lss rfl rfl rfl) rfl rfl ?_   -- t10
    refine Run.nil ?_
    refine At.then ?_
    refine W.cond rfl (fun hc10 => ?_) (fun hc10 => ?_)
    · replace hc10 := of_decide_eq_true hc10
      rw [digP, dif_pos (by omega)]
      refine W.seq ?_
      -- region 4 (new1119.go:107)
      refine W.region ?_
      refine Run.ev (Ev.move rfl) rfl rfl ?_   -- t11
      refine Run.ev (Ev.add (m := 48) rfl rfl (by omega)) rfl rfl ?_   -- t12
      refine Run.ev (Ev.conv_r (n := (48 : Int) + (n : Int)) Tryz.underlying3 Tryz.underlying21 rfl (by omega)) rfl rfl ?_   -- t13
      refine Run.ev (Ev.rune (n := 48 + n) Tryz.underlying21 Tryz.underlying9 rfl (by omega)) rfl rfl ?_   -- t14
      refine Run.ev (Ev.assign rfl) rfl rfl ?_   -- t2
      refine Run.nil ?_
      refine At.then ?_
      refine W.ret ?_
      refine At.then_ret ?_
      exact At.ret1 rfl rfl rfl ⟨rfl, rfl⟩
    · replace hc10 := of_decide_eq_false hc10
      rw [digP, dif_neg (by omega)]
      refine W.skip ?_
      refine At.then ?_
      refine W.seq ?_
      -- region 5 (new1119.go:109)
      refine W.region ?_
      refine Run.ev (Ev.move rfl) rfl rfl ?_   -- t15
      refine Run.ev (Ev.quo rfl rfl (by omega)) rfl rfl ?_   -- t16
      refine Run.step rfl (Stp.callr en_20 rfl (ih (n / 10) (by omega) (by omega) _) rfl ?_)   -- t17
      rintro v17 w17 ⟨rfl, rfl⟩
      refine Run.ev (Ev.move rfl) rfl rfl ?_   -- t18
      refine Run.ev (Ev.rem rfl rfl (by omega)) rfl rfl ?_   -- t19
      refine Run.step rfl (Stp.callr en_20 rfl (ih (n % 10) (by omega) (by omega) _) rfl ?_)   -- t20
      rintro v20 w20 ⟨rfl, rfl⟩
      refine Run.ev (Ev.sadd rfl rfl (by have h1 := digP_len (n / 10); have h2 := digP_len (n % 10); omega)) rfl rfl ?_   -- t21
      refine Run.ev (Ev.assign rfl) rfl rfl ?_   -- t2
      refine Run.nil ?_
      refine At.then ?_
      refine W.ret ?_
      exact At.ret1 rfl rfl rfl ⟨rfl, rfl⟩


theorem fill_step {cs : Array Value} {j n b : Nat} (h : cs.toList = (fillP j b).map byteV ++ List.replicate (n - j) (byteV 0)) (hj : j < n) :
    (cs.setIfInBounds (0 + ((j : Nat) : Int).toNat * 1) (byteV (UInt8.ofNat (b + j * (b % 7 + 1))))).toList = (fillP (j + 1) b).map byteV ++ List.replicate (n - (j + 1)) (byteV 0) := by
  have h1 : (0 + ((j : Nat) : Int).toNat * 1) = ((fillP j b).map byteV).length := by simp [fillP]
  have h2 : n - j = (n - (j + 1)) + 1 := by omega
  rw [Array.toList_setIfInBounds, h, h1, List.set_append_right _ _ (Nat.le_refl _), Nat.sub_self, h2, List.replicate_succ, List.set_cons_zero]
  simp [fillP, List.range_succ]

theorem pitFill_calls (n b : Nat) (w : World) (hn : n ≤ 10000) (hb : b ≤ 255) : Calls P 22 [natv n, natv b].toArray w (Ret fun v w' => v = str (fillP n b) ∧ Kt No w w') := by
  have hml := maxLen_le
  refine enterW 27 Tryz.func22 rfl rfl rfl ?_
  refine W.seq ?_
  -- region 0 (new1119.go:1509)
  refine W.region ?_
  refine Run.ev (Ev.assign rfl) rfl rfl ?_   -- t4
  refine Run.nil ?_
  refine At.then ?_
  refine W.seq ?_
  -- region 1 (new1119.go:1510)
  refine W.region ?_
  refine Run.ev (Ev.move rfl) rfl rfl ?_   -- t7
  refine Run.step rfl (Stp.makeSlice (n := n) Tryz.underlying22 ei_5 rfl rfl rfl (by omega) (by omega) rfl ?_)   -- t8
  intro a8 w8 e8 k8 b8 z8
  obtain ⟨cs8, hb8, hc8⟩ := own_block b8
  refine Run.ev (Ev.assign rfl) rfl rfl ?_   -- t5
  refine Run.nil ?_
  refine At.then ?_
  refine W.seq ?_
  refine W.seq ?_
  -- region 2 (new1119.go:1511)
  refine W.region ?_
  refine Run.ev (Ev.assign rfl) rfl rfl ?_   -- t6
  refine Run.nil ?_
  refine At.then ?_
  refine W.block ?_
  refine W.loop (fun (j : Nat) => [(0, natv n), (1, natv b), (5, .slice (some ⟨a8, 0, none⟩) n n), (6, natv j)])
    (fun j w' => j ≤ n ∧ Kt No w w' ∧ ∃ cs : Array Value, w'.heap[a8]? = some (.cells cs 5 (0, 0)) ∧ cs.toList = (fillP j b).map byteV ++ List.replicate (n - j) (byteV 0)) (fun j => n - j) 0 ⟨Nat.zero_le _, k8, cs8, hb8, by rw [hc8]; simp [fillP]⟩ (Env.sub_cons rfl (Env.sub_cons rfl (Env.sub_cons rfl (Env.sub_cons rfl (Env.sub_nil _))))) ?_
  rintro j w1 ⟨hj, hk1, cs, hbx, hcs⟩
  have hlen : cs.size = n := by
    have := congrArg List.length hcs
    simp [fillP] at this
    omega
  refine W.seq ?_
  refine W.seq ?_
  -- region 3 (new1119.go:1511)
  refine W.region ?_
  refine Run.ev (Ev.move rfl) rfl rfl ?_   -- t9
  refine Run.ev (Ev.move rfl) rfl rfl ?_   -- t10
  refine Run.ev (Ev.lss rfl rfl rfl) rfl rfl ?_   -- t11
  refine Run.nil ?_
  refine At.then ?_
  refine W.cond rfl (fun hc11 => ?_) (fun hc11 => ?_)
  · replace hc11 := of_decide_eq_true hc11
    refine W.skip ?_
    refine At.then ?_
    refine W.seq ?_
    refine W.block ?_
    -- region 5 (new1119.go:1512)
    refine W.region ?_
    refine Run.ev (Ev.move rfl) rfl rfl ?_   -- t14
    refine Run.ev (Ev.move rfl) rfl rfl ?_   -- t15
    refine Run.ev (Ev.move rfl) rfl rfl ?_   -- t16
    refine Run.ev (Ev.move rfl) rfl rfl ?_   -- t17
    refine Run.ev (Ev.move rfl) rfl rfl ?_   -- t18
    refine Run.ev (Ev.rem (n := 7) rfl rfl (by omega)) rfl rfl ?_   -- t19
    refine Run.ev (Ev.addN (m := b % 7) (n := 1) rfl rfl (by omega)) rfl rfl ?_   -- t20
    refine Run.ev (Ev.mulN (m := j) (n := b % 7 + 1) rfl rfl (by have := Nat.mul_le_mul (show j ≤ 10000 by omega) (show b % 7 + 1 ≤ 7 by omega); omega)) rfl rfl ?_   -- t21
    refine Run.ev (Ev.addN (m := b) (n := j * (b % 7 + 1)) rfl rfl (by have := Nat.mul_le_mul (show j ≤ 10000 by omega) (show b % 7 + 1 ≤ 7 by omega); omega)) rfl rfl ?_   -- t22
    refine Run.ev (Ev.conv_bN (n := b + j * (b % 7 + 1)) Tryz.underlying3 Tryz.underlying5 rfl) rfl rfl ?_   -- t23
    refine Run.ev (Ev.indexAddr Tryz.underlying22 es_5 rfl rfl (by omega) rfl) rfl rfl ?_   -- t24
    refine Run.step rfl (Stp.store sc_5 sz_5 rfl rfl rfl hbx (by omega) ?_)   -- tNone
    intro wS kS bS zS
    refine Run.nil ?_
    refine At.block ?_
    refine At.then ?_
    -- region 4 (new1119.go:1511)
    refine W.region ?_
    refine Run.ev (Ev.move rfl) rfl rfl ?_   -- t12
    refine Run.ev (Ev.add rfl rfl (by omega)) rfl rfl ?_   -- t13
    refine Run.ev (Ev.assign rfl) rfl rfl ?_   -- t6
    refine Run.nil ?_
    exact At.round (j + 1) (Env.sub_cons rfl (Env.sub_cons rfl (Env.sub_cons rfl (Env.sub_cons rfl (Env.sub_nil _))))) ⟨by omega, hk1.new kS (by rintro i rfl; omega), _, bS, fill_step hcs (by omega)⟩ (by omega)
  · replace hc11 := of_decide_eq_false hc11
    obtain rfl : j = n := by omega
    have hsl := block_sl hbx (by omega)
    rw [hlen, hcs] at hsl
    refine W.exit ?_
    refine At.then_exit ?_
    refine At.then_exit ?_
    refine At.block_here ?_
    refine At.then ?_
    refine W.seq ?_
    -- region 6 (new1119.go:1514)
    refine W.region ?_
    refine Run.ev (Ev.move rfl) rfl rfl ?_   -- t25
    refine Run.ev (Ev.ofBytes (s := fillP j b) Tryz.underlying22 Tryz.underlying5 Tryz.underlying9 rfl (by simpa using hsl)) rfl rfl ?_   -- t26
    refine Run.ev (Ev.assign rfl) rfl rfl ?_   -- t4
    refine Run.nil ?_
    refine At.then ?_
    refine W.ret ?_
    exact At.ret1 rfl rfl rfl ⟨rfl, hk1⟩

end Go.Proofs.YtlcgeepjekcfgaaGreat
