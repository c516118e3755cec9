/- The plain law, i: a root that is torn. -/
import Derived.Test.YtlcgeepjekcfgaaGreatLh
namespace Go.Proofs.YtlcgeepjekcfgaaGreat
open Go.RowKit
set_option linter.unusedVariables false
set_option linter.unusedSimpArgs false

theorem adlS_step {x y : Nat} {c : UInt8} {l : Bs} (h : y + (x + c.toNat) < 65521) : adlS (x, y) (c :: l) = adlS (x + c.toNat, y + (x + c.toNat)) l := by
  unfold adlS
  rw [List.foldl_cons]
  simp only
  rw [Nat.mod_eq_of_lt (show x + c.toNat < 65521 by omega), Nat.mod_eq_of_lt h]
/-- Twelve bytes that begin as a root does. -/
def tw (g d h l : UInt8) : Bs := [77, 66, 79, 89, 0, 0, 0, g, 0, d, h, l]
theorem adl_tw (g d h l : UInt8) : adl (tw g d h l) = (3253 + 5 * g.toNat + 3 * d.toNat + 2 * h.toNat + l.toNat) * 65536 + (312 + g.toNat + d.toNat + h.toNat + l.toNat) := by
  have hg := g.toNat_lt
  have hd := d.toNat_lt
  have hh := h.toNat_lt
  have hl := l.toNat_lt
  unfold adl tw
  have e77 : (77 : UInt8).toNat = 77 := rfl
  have e66 : (66 : UInt8).toNat = 66 := rfl
  have e79 : (79 : UInt8).toNat = 79 := rfl
  have e89 : (89 : UInt8).toNat = 89 := rfl
  have e0 : (0 : UInt8).toNat = 0 := rfl
  rw [adlS_step (by omega), adlS_step (by omega), adlS_step (by omega), adlS_step (by omega), adlS_step (by omega), adlS_step (by omega), adlS_step (by omega), adlS_step (by omega), adlS_step (by omega), adlS_step (by omega), adlS_step (by omega), adlS_step (by omega)]
  simp only [adlS, List.foldl_nil, e77, e66, e79, e89, e0]
  omega
theorem tw_inj {g d h l g' d' h' l' : UInt8} (he : adl (tw g d h l) = adl (tw g' d' h' l')) : g.toNat + d.toNat + h.toNat + l.toNat = g'.toNat + d'.toNat + h'.toNat + l'.toNat ∧ 5 * g.toNat + 3 * d.toNat + 2 * h.toNat + l.toNat = 5 * g'.toNat + 3 * d'.toNat + 2 * h'.toNat + l'.toNat := by
  rw [adl_tw, adl_tw] at he
  have hg := g.toNat_lt
  have hd := d.toNat_lt
  have hh := h.toNat_lt
  have hl := l.toNat_lt
  have hg' := g'.toNat_lt
  have hd' := d'.toNat_lt
  have hh' := h'.toNat_lt
  have hl' := l'.toNat_lt
  omega
theorem be_adl {a b : Bs} (h : be (adl a) 4 = be (adl b) 4) : adl a = adl b := by
  have h1 := congrArg unbe h
  rw [unbe_be, unbe_be] at h1
  have := adl_lt a
  have := adl_lt b
  omega
theorem u8 {n : Nat} (h : n < 256) : (UInt8.ofNat n).toNat = n := by simp; omega
theorem rootS_tw {g d s : Nat} (hg : g < 256) (hd : d < 256) (hs : s < 1024) : rootS g d s = tw (UInt8.ofNat g) (UInt8.ofNat d) (UInt8.ofNat (s / 256)) (UInt8.ofNat s) := by
  have e1 : be g 4 = [0, 0, 0, UInt8.ofNat g] := by
    simp only [be]
    rw [show g / 256 ^ 3 = 0 from by omega, show g / 256 ^ 2 = 0 from by omega, show g / 256 ^ 1 = 0 from by omega, show g / 256 ^ 0 = g from by omega]
    rfl
  have e2 : be d 2 = [0, UInt8.ofNat d] := by
    simp only [be]
    rw [show d / 256 ^ 1 = 0 from by omega, show d / 256 ^ 0 = d from by omega]
    rfl
  have e3 : be s 2 = [UInt8.ofNat (s / 256), UInt8.ofNat s] := by
    simp only [be]
    rw [show s / 256 ^ 1 = s / 256 from by omega, show s / 256 ^ 0 = s from by omega]
  unfold rootS
  rw [e1, e2, e3]
  rfl
theorem rootP_tw {g d s : Nat} (hg : g < 256) (hd : d < 256) (hs : s < 1024) : rootP g d s = tw (UInt8.ofNat g) (UInt8.ofNat d) (UInt8.ofNat (s / 256)) (UInt8.ofNat s) ++ be (adl (tw (UInt8.ofNat g) (UInt8.ofNat d) (UInt8.ofNat (s / 256)) (UInt8.ofNat s))) 4 ++ List.replicate 48 0 := by
  unfold rootP sum4 padP
  rw [rootS_tw hg hd hs]
  simp [tw, be_length]
theorem rootOf_some {M : Bs} {r : Nat × Nat × Nat} (h : rootOfP M = some r) : r = (unbe (cutP M 4 8), unbe (cutP M 8 10), unbe (cutP M 10 12)) ∧ 1 ≤ r.1 ∧ rootP r.1 r.2.1 r.2.2 = M ∧ cutP M 12 16 = be (adl (M.take 12)) 4 := by
  unfold rootOfP at h
  split at h
  · rename_i h1
    cases h
    refine ⟨rfl, h1.1.1, h1.2, ?_⟩
    obtain ⟨c, e, hc⟩ := rootP_eq (unbe (cutP M 4 8)) (unbe (cutP M 8 10)) (unbe (cutP M 10 12))
    rw [h1.2] at e
    have hr := rootS_len (unbe (cutP M 4 8)) (unbe (cutP M 8 10)) (unbe (cutP M 10 12))
    have e2 : M = rootS (unbe (cutP M 4 8)) (unbe (cutP M 8 10)) (unbe (cutP M 10 12)) ++ (c ++ List.replicate 48 0) := by
      rw [← List.append_assoc]; exact e
    generalize rootS (unbe (cutP M 4 8)) (unbe (cutP M 8 10)) (unbe (cutP M 10 12)) = S at e2 hr hc
    have hl : c.length = 4 := by rw [hc]; exact sum4_length _
    have h12 : M.take 12 = S := by rw [e2, List.take_left' hr]
    have hcut : cutP M 12 16 = c := by
      unfold cutP
      rw [e2, List.drop_left' hr, List.take_left' (by omega)]
    rw [h12, hcut, hc]
    simp [sum4]
  · cases h
theorem cut_take {M : Bs} {S C : Bs} (h : S.length = 12) (hc : C.length = 4) (R : Bs) (hM : M = S ++ C ++ R) : M.take 12 = S ∧ cutP M 12 16 = C := by
  rw [List.append_assoc] at hM
  subst hM
  refine ⟨List.take_left' h, ?_⟩
  unfold cutP
  rw [List.drop_left' h, List.take_left' (by omega)]
/-- The page of the root that is not the committed one. -/
def OthP (B : Bs) (g : Nat) : Prop := B = padP [] ∨ (2 ≤ g ∧ ∃ d s, d < 256 ∧ s < 1024 ∧ B = rootP (g - 1) d s)
theorem OthP.lt {B : Bs} {g : Nat} (h : OthP B g) (hg : g < 255) {r : Nat × Nat × Nat} (hr : rootOfP B = some r) : r.1 < g := by
  rcases h with rfl | ⟨h2, d, s, hd, hs, rfl⟩
  · have := (rootOf_some hr).2.1
    rw [(rootOf_some hr).1] at this
    exact absurd this (by decide)
  · rw [rootOf_root (by omega) (by omega) (by omega)] at hr
    cases hr
    show g - 1 < g
    omega
theorem mix8 (g d h l b0 b1 b2 b3 b4 b5 b6 b7 b8 b9 b10 b11 : UInt8) (X Y : Bs) : mixP 8 (tw g d h l ++ X) ([b0, b1, b2, b3, b4, b5, b6, b7, b8, b9, b10, b11] ++ Y) = [77, 66, 79, 89, 0, 0, 0, g, b8, b9, b10, b11] ++ Y := rfl
theorem mix9 (g d h l b0 b1 b2 b3 b4 b5 b6 b7 b8 b9 b10 b11 : UInt8) (X Y : Bs) : mixP 9 (tw g d h l ++ X) ([b0, b1, b2, b3, b4, b5, b6, b7, b8, b9, b10, b11] ++ Y) = tw g b9 b10 b11 ++ Y := rfl
theorem mix10 (g d h l b0 b1 b2 b3 b4 b5 b6 b7 b8 b9 b10 b11 : UInt8) (X Y : Bs) : mixP 10 (tw g d h l ++ X) ([b0, b1, b2, b3, b4, b5, b6, b7, b8, b9, b10, b11] ++ Y) = tw g d b10 b11 ++ Y := rfl
theorem mix11 (g d h l b0 b1 b2 b3 b4 b5 b6 b7 b8 b9 b10 b11 : UInt8) (X Y : Bs) : mixP 11 (tw g d h l ++ X) ([b0, b1, b2, b3, b4, b5, b6, b7, b8, b9, b10, b11] ++ Y) = tw g d h b11 ++ Y := rfl
/-- Eight to eleven bytes of a new root, the rest of another page. -/
theorem mix_mid {g d h l b0 b1 b2 b3 b4 b5 b6 b7 b9 b10 b11 : UInt8} {X C R : Bs} {m : Nat} (h8 : 8 ≤ m) (h12 : ¬ 12 ≤ m) (hC : C.length = 4) : ∃ D H, (H = b10 ∨ H = h) ∧ (mixP m (tw g d h l ++ X) ([b0, b1, b2, b3, b4, b5, b6, b7, 0, b9, b10, b11] ++ (C ++ R))).take 12 = tw g D H b11 ∧ cutP (mixP m (tw g d h l ++ X) ([b0, b1, b2, b3, b4, b5, b6, b7, 0, b9, b10, b11] ++ (C ++ R))) 12 16 = C := by
  have : m = 8 ∨ m = 9 ∨ m = 10 ∨ m = 11 := by omega
  rcases this with rfl | rfl | rfl | rfl
  · exact ⟨b9, b10, .inl rfl, cut_take (S := tw g b9 b10 b11) rfl hC R (by rw [mix8, List.append_assoc]; rfl)⟩
  · exact ⟨b9, b10, .inl rfl, cut_take (S := tw g b9 b10 b11) rfl hC R (by rw [mix9, List.append_assoc])⟩
  · exact ⟨d, b10, .inl rfl, cut_take (S := tw g d b10 b11) rfl hC R (by rw [mix10, List.append_assoc])⟩
  · exact ⟨d, h, .inr rfl, cut_take (S := tw g d h b11) rfl hC R (by rw [mix11, List.append_assoc])⟩
theorem mix_low {g d h l b8 b9 b10 b11 : UInt8} {X Y : Bs} {m : Nat} (h7 : m ≤ 7) : cutP (mixP m (tw g d h l ++ X) ([0, 0, 0, 0, 0, 0, 0, 0, b8, b9, b10, b11] ++ Y)) 4 8 = [0, 0, 0, 0] := by
  have : m = 0 ∨ m = 1 ∨ m = 2 ∨ m = 3 ∨ m = 4 ∨ m = 5 ∨ m = 6 ∨ m = 7 := by omega
  rcases this with rfl | rfl | rfl | rfl | rfl | rfl | rfl | rfl <;> rfl
theorem tw_take {g d h l g' d' h' l' : UInt8} {X Y : Bs} {m : Nat} (h7 : m ≤ 7) : (tw g d h l ++ X).take m = (tw g' d' h' l' ++ Y).take m := by
  have : m = 0 ∨ m = 1 ∨ m = 2 ∨ m = 3 ∨ m = 4 ∨ m = 5 ∨ m = 6 ∨ m = 7 := by omega
  rcases this with rfl | rfl | rfl | rfl | rfl | rfl | rfl | rfl <;> rfl
theorem torn_law {B : Bs} {g d s m : Nat} (hB : OthP B g) (hg1 : 1 ≤ g) (hg : g < 255) (hd : d < 256) (hs : s < 1024) (hm : m ≤ 64) : mixP m (rootP (g + 1) d s) B = rootP (g + 1) d s ∨ ∀ r, rootOfP (mixP m (rootP (g + 1) d s) B) = some r → r.1 < g := by
  have hA := rootP_tw (g := g + 1) (by omega) hd hs
  generalize hc1 : be (adl (tw (UInt8.ofNat (g + 1)) (UInt8.ofNat d) (UInt8.ofNat (s / 256)) (UInt8.ofNat s))) 4 = c1 at hA
  have hc1l : c1.length = 4 := by rw [← hc1]; exact be_length _ _
  obtain ⟨p0, p1, p2, p3, rfl⟩ := len4 hc1l
  have hAl := rootP_len (g + 1) d s
  by_cases h12 : 12 ≤ m
  · -- the first twelve bytes are new
    by_cases hr : ∃ r, rootOfP (mixP m (rootP (g + 1) d s) B) = some r
    · obtain ⟨r, hr⟩ := hr
      left
      have h1 := rootOf_some hr
      have e : ∀ a b, b ≤ 12 → cutP (mixP m (rootP (g + 1) d s) B) a b = cutP (rootP (g + 1) d s) a b := by
        intro a b hb
        unfold cutP mixP
        have e1 : ∀ X : Bs, (X.drop a).take (b - a) = (X.take b).drop a := fun X => List.drop_take.symm
        rw [e1, e1, List.take_append, List.length_take, hAl, show b - min m 64 = 0 from by omega, List.take_zero, List.append_nil, List.take_take, show min b m = b from by omega]
      have h2 := rootOf_root (g := g + 1) (d := d) (s := s) (by omega) (by omega) (by omega)
      have h3 := (rootOf_some h2).1
      rw [e 4 8 (by omega), e 8 10 (by omega), e 10 12 (by omega), ← h3] at h1
      rw [← h1.2.2.1, h1.1]
    · right
      intro r hr'
      exact absurd ⟨r, hr'⟩ hr
  · right
    rcases hB with rfl | ⟨h2, d0, s0, hd0, hs0, rfl⟩
    · intro r hr
      have h1 := rootOf_some hr
      have ez : padP [] = List.replicate 64 0 := by simp [padP]
      have ez2 : List.replicate 64 (0 : UInt8) = [0, 0, 0, 0, 0, 0, 0, 0, 0, 0, 0, 0] ++ ([0, 0, 0, 0] ++ List.replicate 48 0) := rfl
      rw [hA, ez, ez2, List.append_assoc] at h1
      by_cases h7 : m ≤ 7
      · exfalso
        rw [mix_low h7] at h1
        have h3 : r.1 = unbe [0, 0, 0, 0] := congrArg (·.1) h1.1
        have h4 : unbe [0, 0, 0, 0] = 0 := rfl
        have := h1.2.1
        omega
      · exfalso
        obtain ⟨D, H, _, e1, e2⟩ := mix_mid (g := UInt8.ofNat (g + 1)) (d := UInt8.ofNat d) (h := UInt8.ofNat (s / 256)) (l := UInt8.ofNat s) (b0 := 0) (b1 := 0) (b2 := 0) (b3 := 0) (b4 := 0) (b5 := 0) (b6 := 0) (b7 := 0) (b9 := 0) (b10 := 0) (b11 := 0) (X := [p0, p1, p2, p3] ++ List.replicate 48 0) (C := [0, 0, 0, 0]) (R := List.replicate 48 0) (m := m) (by omega) h12 rfl
        have h2 := h1.2.2.2
        rw [e1, e2] at h2
        have h3 := congrArg unbe h2
        rw [unbe_be] at h3
        have h4 := adl_lt (tw (UInt8.ofNat (g + 1)) D H 0)
        rw [adl_tw] at h3 h4
        have h5 : unbe [0, 0, 0, 0] = 0 := rfl
        rw [h5] at h3
        omega
    · have hB := rootP_tw (g := g - 1) (by omega) hd0 hs0
      by_cases h7 : m ≤ 7
      · have e : mixP m (rootP (g + 1) d s) (rootP (g - 1) d0 s0) = rootP (g - 1) d0 s0 := by
          have e1 : (rootP (g + 1) d s).take m = (rootP (g - 1) d0 s0).take m := by
            rw [hA, hB, List.append_assoc, List.append_assoc]
            exact tw_take h7
          unfold mixP
          rw [e1, List.take_append_drop]
        intro r hr
        rw [e] at hr
        exact OthP.lt (.inr ⟨h2, d0, s0, hd0, hs0, rfl⟩) hg hr
      · intro r hr
        exfalso
        have h1 := (rootOf_some hr).2.2.2
        generalize hc0 : be (adl (tw (UInt8.ofNat (g - 1)) (UInt8.ofNat d0) (UInt8.ofNat (s0 / 256)) (UInt8.ofNat s0))) 4 = c0 at hB
        have hc0l : c0.length = 4 := by rw [← hc0]; exact be_length _ _
        obtain ⟨q0, q1, q2, q3, rfl⟩ := len4 hc0l
        rw [hA, hB, List.append_assoc, List.append_assoc] at h1
        obtain ⟨D, H, hH, e1, e2⟩ := mix_mid (g := UInt8.ofNat (g + 1)) (d := UInt8.ofNat d) (h := UInt8.ofNat (s / 256)) (l := UInt8.ofNat s) (b0 := 77) (b1 := 66) (b2 := 79) (b3 := 89) (b4 := 0) (b5 := 0) (b6 := 0) (b7 := UInt8.ofNat (g - 1)) (b9 := UInt8.ofNat d0) (b10 := UInt8.ofNat (s0 / 256)) (b11 := UInt8.ofNat s0) (X := [p0, p1, p2, p3] ++ List.replicate 48 0) (C := [q0, q1, q2, q3]) (R := List.replicate 48 0) (m := m) (by omega) h12 rfl
        have hsd := u8 (n := s / 256) (by omega)
        have hsd0 := u8 (n := s0 / 256) (by omega)
        have hH4 : H.toNat < 4 := by
          rcases hH with rfl | rfl
          · rw [hsd0]; omega
          · rw [hsd]; omega
        unfold tw at h1 e1 e2
        rw [e1, e2] at h1
        have h3 := tw_inj (be_adl (hc0.trans h1))
        rw [u8 (show g - 1 < 256 by omega), u8 (show g + 1 < 256 by omega), hsd0] at h3
        omega
end Go.Proofs.YtlcgeepjekcfgaaGreat
