/- The pit: change. -/
import Derived.Test.YtlcgeepjekcfgaaGreatLa
namespace Go.Proofs.YtlcgeepjekcfgaaGreat
open Go.RowKit
set_option linter.unusedVariables false
set_option linter.unusedSimpArgs false


def pnP (i : Nat) : Bs := [110] ++ digP i
theorem digP_dig (n : Nat) : ∀ c ∈ digP n, 48 ≤ c.toNat ∧ c.toNat ≤ 57 := by
  induction n using Nat.strongRecOn with
  | _ n ih =>
    rw [digP]
    split
    · rename_i h
      intro c hc
      rw [List.mem_singleton] at hc
      subst hc
      have : (UInt8.ofNat (48 + n)).toNat = 48 + n := by simp; omega
      omega
    · intro c hc
      rcases List.mem_append.1 hc with hc | hc
      · exact ih (n / 10) (by omega) c hc
      · exact ih (n % 10) (by omega) c hc
def valP (l : Bs) : Nat := l.foldl (fun a c => 10 * a + (c.toNat - 48)) 0
theorem valP_digP (n : Nat) : valP (digP n) = n := by
  induction n using Nat.strongRecOn with
  | _ n ih =>
    rw [digP]
    split
    · rename_i h
      have : (UInt8.ofNat (48 + n)).toNat = 48 + n := by simp; omega
      simp only [valP, List.foldl_cons, List.foldl_nil, this]; omega
    · rename_i h
      have h1 := ih (n / 10) (by omega)
      have h2 : digP (n % 10) = [UInt8.ofNat (48 + n % 10)] := by rw [digP, dif_pos (by omega)]
      have h3 : (UInt8.ofNat (48 + n % 10)).toNat = 48 + n % 10 := by simp; omega
      rw [h2]
      unfold valP at h1 ⊢
      rw [List.foldl_append, h1, List.foldl_cons, List.foldl_nil, h3]; omega
theorem pnP_inj {i j : Nat} (h : pnP i = pnP j) : i = j := by
  have h2 : digP i = digP j := by simpa [pnP] using h
  rw [← valP_digP i, ← valP_digP j, h2]
theorem digP_len3 {n : Nat} (h : n < 1000) : (digP n).length ≤ 3 := by
  have l1 : ∀ m, m < 10 → (digP m).length = 1 := fun m hm => by rw [digP, dif_pos hm]; rfl
  have l2 : ∀ m, m < 100 → (digP m).length ≤ 2 := fun m hm => by
    by_cases h : m < 10
    · rw [l1 m h]; omega
    · rw [digP, dif_neg h, List.length_append, l1 _ (by omega), l1 _ (by omega)]; omega
  by_cases h1 : n < 10
  · rw [l1 n h1]; omega
  · rw [digP, dif_neg h1, List.length_append, l1 (n % 10) (by omega)]
    have := l2 (n / 10) (by omega); omega
theorem pnP_len {i : Nat} (h : i < 1000) : (pnP i).length ≤ 4 := by
  have := digP_len3 h
  simp [pnP]; omega
theorem pnP_name {i : Nat} (h : i < 1000) : isNameP (pnP i) = true := by
  have hl := pnP_len h
  unfold isNameP
  refine decide_eq_true ⟨by simp [pnP], by omega, fun k hk => ?_⟩
  cases k with
  | zero => rfl
  | succ k =>
    have hk2 : k < (digP i).length := by simpa [pnP] using hk
    have e : (pnP i)[k + 1] = (digP i)[k] := by simp [pnP]
    rw [e]
    have hd := digP_dig i _ (List.getElem_mem hk2)
    generalize (digP i)[k] = c at hd
    unfold nameC
    rw [Bool.or_eq_true]
    refine .inr ?_
    rw [Bool.and_eq_true]
    refine ⟨by simp, ?_⟩
    unfold otherB
    simp [UInt8.le_iff_toNat_le]
    omega


def Bnd (l : List PitF) : Prop := l.length ≤ 30 ∧ ∀ q ∈ l, q.1.length ≤ 16 ∧ q.2.length ≤ 4000 ∧ isNameP q.1 = true
theorem MapR.objne68 {κ : Type} {enc : κ → Value} {w : World} {b : Nat} {m : List (κ × Value)} (h : MapR enc w b m) : ∃ o, w.heap[b]? = some o ∧ ∀ c f, o ≠ .cells c 68 f := by
  obtain ⟨es, c, ho⟩ := h.obj
  exact ⟨_, ho, by intro c f e; cases e⟩
theorem PitR.ktm {κ : Type} {enc : κ → Value} {pb mn : Nat} {p : Pit} {w w' : World} {m : List (κ × Value)} (h : PitR pb p w) (hm : MapR enc w mn m) (hk : Kt (fun i => i = mn) w w') : PitR pb p w' :=
  h.kt hk (fun e => hm.ne_cells h.hb e.symm) (by rintro i rfl; exact hm.objne68)
theorem StoR.ktp29 {sb pb : Nat} {t : Sto} {p : Pit} {w w' : World} (h : StoR sb t w) (hp : PitR pb p w) (hk : Kt (fun i => i = pb) w w') : StoR sb t w' :=
  h.ktf hk (by rintro i rfl; exact ⟨_, hp.hb, _, _, _, rfl, by decide, by decide, by decide, by decide⟩)
theorem fill_len (n b : Nat) : (fillP n b).length = n := by simp [fillP]
theorem put_len {l : List PitF} {n d : Bs} : (putP l n d).length = if hasP l n = true then l.length else l.length + 1 := by
  have h1 := atP_le l n
  have h2 := has_lt (l := l) (n := n)
  unfold putP
  simp only [List.length_append, List.length_take, List.length_cons, List.length_nil, List.length_drop]
  split
  · rename_i h; have := h2 h; omega
  · omega
theorem bnd_put {l : List PitF} {n d : Bs} (h : Bnd l) (h1 : n.length ≤ 16) (h2 : d.length ≤ 4000) (h3 : hasP l n = true ∨ l.length ≠ 30) (h4 : isNameP n = true) : Bnd (putP l n d) := by
  refine ⟨?_, fun q hq => ?_⟩
  · rw [put_len]
    have := h.1
    split
    · exact this
    · rename_i hh; rcases h3 with h3 | h3
      · exact absurd h3 hh
      · omega
  · rcases put_keys hq with rfl | hq
    · exact ⟨h1, h2, h4⟩
    · exact h.2 q hq
theorem bnd_drop {l : List PitF} {k : Nat} (h : Bnd l) (hk : k < l.length) : Bnd (dropP l k) ∧ (dropP l k).length + 1 = l.length := by
  have hl : (dropP l k).length + 1 = l.length := by unfold dropP; simp only [List.length_append, List.length_take, List.length_drop]; omega
  refine ⟨⟨by have := h.1; omega, fun q hq => h.2 q ?_⟩, hl⟩
  unfold dropP at hq
  rcases List.mem_append.1 hq with hq | hq
  · exact List.mem_of_mem_take hq
  · exact List.mem_of_mem_drop hq
section
variable {now : List (Bs × Bs)} {l : List PitF} {i n b : Nat}
theorem wr_t (hs : Sim now l) (hi : i < 1000) (h : (decide ((n : Int) > 4000) || (!hasP l (pnP i) && decide ((l.length : Int) = 30))) = true) : writeP now (pnP i) (fillP n b) = (2, now) := by
  unfold writeP
  rw [pnP_name hi, if_neg (by decide), if_pos ?_]
  rw [(has_mget hs.so).1, ← hs.eq] at h
  rw [fill_len, hs.len]
  simp at h
  rcases h with h | ⟨h1, h2⟩
  · left; omega
  · right; exact ⟨h1, by omega⟩
theorem wr_f (hs : Sim now l) (hi : i < 1000) (h : (decide ((n : Int) > 4000) || (!hasP l (pnP i) && decide ((l.length : Int) = 30))) = false) : writeP now (pnP i) (fillP n b) = (0, mset now (pnP i) (fillP n b)) ∧ n ≤ 4000 ∧ (hasP l (pnP i) = true ∨ l.length ≠ 30) := by
  rw [Bool.or_eq_false_iff] at h
  have h1 := of_decide_eq_false h.1
  have h2 : hasP l (pnP i) = true ∨ l.length ≠ 30 := by
    rcases Bool.and_eq_false_iff.1 h.2 with h | h
    · left; simpa using h
    · right; have := of_decide_eq_false h; omega
  refine ⟨?_, by omega, h2⟩
  unfold writeP
  rw [pnP_name hi, if_neg (by decide), if_neg ?_]
  rw [fill_len, hs.len, hs.eq]
  rintro (h3 | ⟨h3, h4⟩)
  · omega
  · rw [(has_mget hs.so).1, h3] at h2
    rcases h2 with h2 | h2
    · cases h2
    · exact h2 h4
theorem has_f (hs : Sim now l) {x : Bs} (h : hasP l x = false) : mget now x = none := by
  rw [(has_mget hs.so).1, ← hs.eq] at h
  simpa using h
theorem has_t (hs : Sim now l) {x : Bs} (h : hasP l x = true) : ∃ d, mget now x = some d ∧ mget l x = some d ∧ l[atP l x]? = some (x, d) := by
  have h0 := h
  rw [(has_mget hs.so).1] at h
  obtain ⟨d, hd⟩ := Option.isSome_iff_exists.1 h
  exact ⟨d, by rw [hs.eq]; exact hd, hd, (has_mget hs.so).2 d hd⟩
end
/-- A change answers true, and what was like stays like. -/
def ChR (sb pb : Nat) (t : Sto) (p : Pit) (w : World) (v : Value) (w' : World) : Prop :=
  v = .bool true ∧ ∃ now' nw' nv', StoR sb { t with now := now' } w' ∧ PitR pb { p with nw := nw', nv := nv' } w' ∧ Sim now' nw' ∧ Bnd nw' ∧ Kt (fun i => i = pb ∨ i = t.mn) w w'


section
variable {now : List (Bs × Bs)} {l : List PitF} {x y d e : Bs}
theorem ap_f (hs : Sim now l) (h : hasP l x = false) : appendP now x e = (5, now) := by unfold appendP; rw [has_f hs h]
theorem ap_big (h : mget now x = some d) (h2 : 4000 < d.length + e.length) : appendP now x e = (2, now) := by unfold appendP; rw [h]; simp only; rw [if_pos h2]
theorem ap_ok (h : mget now x = some d) (h2 : ¬ 4000 < d.length + e.length) : appendP now x e = (0, mset now x (d ++ e)) := by unfold appendP; rw [h]; simp only; rw [if_neg h2]
theorem rm_f (hs : Sim now l) (h : hasP l x = false) : removeP now x = (5, now) := by unfold removeP; rw [has_f hs h]
theorem rm_ok (h : mget now x = some d) : removeP now x = (0, mdel now x) := by unfold removeP; rw [h]
theorem rn_f (hs : Sim now l) (h : hasP l x = false) : renameP now x y = (5, now) := by unfold renameP; rw [has_f hs h]
theorem rn_ex (h : mget now x = some d) (hy : isNameP y = true) (h2 : (mget now y).isSome = true ∧ y ≠ x) : renameP now x y = (6, now) := by unfold renameP; rw [h]; simp only; rw [hy, if_neg (by decide), if_pos h2]
theorem rn_ok (h : mget now x = some d) (hy : isNameP y = true) (h2 : ¬ ((mget now y).isSome = true ∧ y ≠ x)) : renameP now x y = (0, mset (mdel now x) y d) := by unfold renameP; rw [h]; simp only; rw [hy, if_neg (by decide), if_neg h2]
theorem not_f {b : Bool} (h : (!b) = true) : b = false := by simpa using h
theorem not_t {b : Bool} (h : (!b) = false) : b = true := by simpa using h
theorem sim_bnd (hs : Sim now l) (hb : Bnd l) (h : mget now x = some d) : x.length ≤ 16 ∧ d.length ≤ 4000 := ⟨(hb.2 (x, d) (mget_in (hs.eq x ▸ h))).1, (hb.2 (x, d) (mget_in (hs.eq x ▸ h))).2.1⟩
end

theorem change0_calls (sb pb i j n : Nat) (t : Sto) (p : Pit) (w : World) (hs : StoR sb t w) (hp : PitR pb p w) (hsim : Sim t.now p.nw) (hb : Bnd p.nw) (hi : i < 1000) (hj : j ≤ 255) (hn : n ≤ 10000) : Calls P 6 [.pointer (some ⟨pb, 0, none⟩), .pointer (some ⟨sb, 0, none⟩), natv 0, natv i, natv j, natv n].toArray w (Ret (ChR sb pb t p w)) := by
  have hb1 := hb.1
  have hai := pnP_len hi
  have haj := pnP_len (i := j) (by omega)
  obtain ⟨pp, pc, hnv, hpc1, hpc2⟩ := hp.hn.len
  refine enterW 182 Tryz.func6 rfl rfl rfl ?_
  refine W.seq ?_
  -- region 0 (new1119.go:1518)
  refine W.region ?_
  refine Run.ev (Ev.assign rfl) rfl rfl ?_   -- t12
  refine Run.nil ?_
  refine At.then ?_
  refine W.seq ?_
  -- region 1 (new1119.go:1519)
  refine W.region ?_
  refine Run.ev (Ev.move rfl) rfl rfl ?_   -- t26
  refine Run.step rfl (Stp.callr en_20 rfl (pitDigits_calls i (by omega) _) rfl ?_)   -- t27
  rintro v27 w27 ⟨rfl, e27⟩
  obtain rfl := e27.symm
  refine Run.ev (Ev.sadd (p := [110]) (q := digP i) rfl rfl (by have := digP_len3 hi; simp; omega)) rfl rfl ?_   -- t28
  refine Run.ev (Ev.move rfl) rfl rfl ?_   -- t29
  refine Run.step rfl (Stp.callr en_20 rfl (pitDigits_calls j (by omega) _) rfl ?_)   -- t30
  rintro v30 w30 ⟨rfl, e30⟩
  obtain rfl := e30.symm
  refine Run.ev (Ev.sadd (p := [110]) (q := digP j) rfl rfl (by have := digP_len3 (n := j) (by omega); simp; omega)) rfl rfl ?_   -- t31
  refine Run.ev (Ev.assign rfl) rfl rfl ?_   -- t13
  refine Run.ev (Ev.assign rfl) rfl rfl ?_   -- t14
  refine Run.nil ?_
  refine At.then ?_
  refine W.seq ?_
  -- region 2 (new1119.go:1520)
  refine W.region ?_
  refine Run.ev (Ev.move rfl) rfl rfl ?_   -- t33
  refine Run.ev (Ev.move rfl) rfl rfl ?_   -- t34
  refine Run.step rfl (Stp.callr en_21 rfl (find_calls pb p (pnP i) w hp (by omega)) rfl ?_)   -- t35
  rintro v35 w35 ⟨rfl, k35⟩
  replace hp := hp.kt0 k35
  replace hs := hs.kt0 k35
  have kt : Kt (fun i => i = pb ∨ i = t.mn) w w35 := k35.mono (fun _ _ h => h.elim)
  refine Run.ev (Ev.move rfl) rfl rfl ?_   -- t32
  refine Run.ev (Ev.extract rfl rfl) rfl rfl ?_   -- t36
  refine Run.ev (Ev.extract rfl rfl) rfl rfl ?_   -- t37
  refine Run.ev (Ev.assign rfl) rfl rfl ?_   -- t15
  refine Run.ev (Ev.assign rfl) rfl rfl ?_   -- t16
  refine Run.nil ?_
  refine At.then ?_
  refine W.seq ?_
  -- region 3 (new1119.go:1521)
  refine W.region ?_
  refine Run.ev (Ev.move rfl) rfl rfl ?_   -- t39
  refine Run.ev (Ev.move rfl) rfl rfl ?_   -- t40
  refine Run.step rfl (Stp.callr en_21 rfl (find_calls pb p (pnP j) w35 hp (by omega)) rfl ?_)   -- t41
  rintro v41 w41 ⟨rfl, k41⟩
  replace hp := hp.kt0 k41
  replace hs := hs.kt0 k41
  replace kt := kt.no k41
  refine Run.ev (Ev.move rfl) rfl rfl ?_   -- t38
  refine Run.ev (Ev.extract rfl rfl) rfl rfl ?_   -- t42
  refine Run.ev (Ev.extract rfl rfl) rfl rfl ?_   -- t43
  refine Run.ev (Ev.assign rfl) rfl rfl ?_   -- t17
  refine Run.ev (Ev.assign rfl) rfl rfl ?_   -- t18
  refine Run.nil ?_
  refine At.then ?_
  refine W.seq ?_
  refine W.seq ?_
  -- region 4 (new1119.go:1522)
  refine W.region ?_
  refine Run.ev (Ev.move rfl) rfl rfl ?_   -- t44
  refine Run.nil ?_
  refine At.then ?_
  refine W.block ?_
  refine W.seq ?_
  -- region 5 (new1119.go:1523)
  refine W.region ?_
  refine Run.ev (Ev.eql (m := 0) (n := 0) (b := true) rfl rfl rfl) rfl rfl ?_   -- t46
  refine Run.ev (Ev.assign rfl) rfl rfl ?_   -- t45
  refine Run.nil ?_
  refine At.then ?_
  refine W.cond_t rfl ?_
  refine W.seq ?_
  -- region 6 (new1119.go:1524)
  refine W.region ?_
  refine Run.ev (Ev.move rfl) rfl rfl ?_   -- t47
  refine Run.ev (Ev.move rfl) rfl rfl ?_   -- t48
  refine Run.step rfl (Stp.callr en_22 rfl (pitFill_calls n j w41 (by omega) (by omega)) rfl ?_)   -- t49
  rintro v49 w49 ⟨rfl, k49⟩
  replace hp := hp.kt0 k49
  replace hs := hs.kt0 k49
  replace kt := kt.no k49
  refine Run.ev (Ev.assign rfl) rfl rfl ?_   -- t19
  refine Run.nil ?_
  refine At.then ?_
  refine W.seq ?_
  -- region 7 (new1119.go:1525)
  refine W.region ?_
  refine Run.ev (Ev.move rfl) rfl rfl ?_   -- t50
  refine Run.ev (Ev.move rfl) rfl rfl ?_   -- t51
  refine Run.ev (Ev.move rfl) rfl rfl ?_   -- t52
  refine Run.step rfl (Stp.callr en_23 rfl (Write_calls sb t (pnP i) (fillP n j) w49 hs (by omega) (by rw [fill_len]; omega)) rfl ?_)   -- t53
  rintro v53 w53 ⟨rfl, hs53, k53⟩
  replace hp := hp.ktm hs.hmn k53
  replace kt := kt.trans k53 (fun i _ h => .inr h)
  refine Run.ev (Ev.assign rfl) rfl rfl ?_   -- t20
  refine Run.nil ?_
  refine At.then ?_
  refine W.seq ?_
  refine W.seq ?_
  -- region 8 (new1119.go:1526)
  refine W.region ?_
  refine Run.ev (Ev.move rfl) rfl rfl ?_   -- t54
  refine Run.ev (Ev.gtr (m := (n : Int)) (n := 4000) rfl rfl rfl) rfl rfl ?_   -- t55
  refine Run.ev (Ev.move rfl) rfl rfl ?_   -- t56
  refine Run.evg rfl rfl (fun hg => (Ev.move rfl)) rfl ?_   -- t57
  refine Run.evg rfl rfl (fun hg => (Ev.not (ifp hg))) rfl ?_   -- t58
  refine Run.evg rfl rfl (fun hg => (Ev.move (ifp hg))) rfl ?_   -- t59
  refine Run.evh rfl rfl (fun hg => (Ev.move rfl)) rfl ?_   -- t60
  refine Run.evh rfl rfl (fun hg => (Ev.nilCheck (ifp hg))) rfl ?_   -- t61
  refine Run.evh rfl rfl (fun hg => (Ev.fieldAddr fo_29_0 (ifp hg) rfl)) rfl ?_   -- t62
  refine Run.evh rfl rfl (fun hg => (Ev.load (v := .slice pp p.nw.length pc) sc_27 (ifp hg) (cell_of hp.hb (by rw [hnv]; rfl)))) rfl ?_   -- t63
  refine Run.evh rfl rfl (fun hg => (Ev.len (ifp hg) Tryz.underlying27)) rfl ?_   -- t64
  refine Run.evh rfl rfl (fun hg => (Ev.eql (ifp hg) rfl rfl)) rfl ?_   -- t65
  refine Run.evg rfl rfl (fun hg => (Ev.pick_andh hg rfl rfl rfl)) rfl ?_   -- t66
  refine Run.ev (Ev.pick_or rfl rfl rfl) rfl rfl ?_   -- t67
  refine Run.nil ?_
  refine At.then ?_
  refine W.cond rfl (fun hc67 => ?_) (fun hc67 => ?_)
  · have hw := wr_t (b := j) hsim hi hc67
    rw [hw] at hs53
    refine W.seq ?_
    -- region 9 (new1119.go:1527)
    refine W.region ?_
    refine Run.ev (Ev.move rfl) rfl rfl ?_   -- t68
    refine Run.ev (Ev.eql (m := ((writeP t.now (pnP i) (fillP n j)).1 : Int)) (n := 2) rfl rfl rfl) rfl rfl ?_   -- t69
    refine Run.ev (Ev.assign rfl) rfl rfl ?_   -- t12
    refine Run.nil ?_
    refine At.then ?_
    refine W.ret ?_
    refine At.then_ret ?_
    refine At.block_ret ?_
    refine At.then_ret ?_
    exact At.ret1 rfl rfl rfl ⟨by rw [hw]; rfl, t.now, p.nw, p.nv, hs53, hp, hsim, hb, kt⟩
  · obtain ⟨hw, hn4, hor⟩ := wr_f (b := j) hsim hi hc67
    rw [hw] at hs53
    refine W.skip ?_
    refine At.then ?_
    refine W.seq ?_
    -- region 10 (new1119.go:1529)
    refine W.region ?_
    refine Run.ev (Ev.move rfl) rfl rfl ?_   -- t70
    refine Run.ev (Ev.move rfl) rfl rfl ?_   -- t71
    refine Run.ev (Ev.move rfl) rfl rfl ?_   -- t72
    refine Run.step rfl (Stp.callr en_24 rfl (put_calls pb p (pnP i) (fillP n j) w53 hp (by omega)) rfl ?_)   -- t73
    rintro v73 w73 ⟨rfl, nv, hp73, k73⟩
    replace hs53 := hs53.ktp29 hp k73
    replace kt := kt.trans k73 (fun i _ h => .inl h)
    refine Run.nil ?_
    refine At.then ?_
    refine W.seq ?_
    -- region 11 (new1119.go:1530)
    refine W.region ?_
    refine Run.ev (Ev.move rfl) rfl rfl ?_   -- t74
    refine Run.ev (Ev.eql (m := ((writeP t.now (pnP i) (fillP n j)).1 : Int)) (n := 0) rfl rfl rfl) rfl rfl ?_   -- t75
    refine Run.ev (Ev.assign rfl) rfl rfl ?_   -- t12
    refine Run.nil ?_
    refine At.then ?_
    refine W.ret ?_
    refine At.block_ret ?_
    refine At.then_ret ?_
    exact At.ret1 rfl rfl rfl ⟨by rw [hw]; rfl, _, _, nv, hs53, hp73, hsim.put _ _, bnd_put hb (by omega) (by rw [fill_len]; omega) hor (pnP_name hi), kt⟩

theorem change1_calls (sb pb i j n : Nat) (t : Sto) (p : Pit) (w : World) (hs : StoR sb t w) (hp : PitR pb p w) (hsim : Sim t.now p.nw) (hb : Bnd p.nw) (hi : i < 1000) (hj : j ≤ 255) (hn : n ≤ 10000) : Calls P 6 [.pointer (some ⟨pb, 0, none⟩), .pointer (some ⟨sb, 0, none⟩), natv 1, natv i, natv j, natv n].toArray w (Ret (ChR sb pb t p w)) := by
  have hb1 := hb.1
  have hai := pnP_len hi
  have haj := pnP_len (i := j) (by omega)
  obtain ⟨pp, pc, hnv, hpc1, hpc2⟩ := hp.hn.len
  refine enterW 182 Tryz.func6 rfl rfl rfl ?_
  refine W.seq ?_
  -- region 0 (new1119.go:1518)
  refine W.region ?_
  refine Run.ev (Ev.assign rfl) rfl rfl ?_   -- t12
  refine Run.nil ?_
  refine At.then ?_
  refine W.seq ?_
  -- region 1 (new1119.go:1519)
  refine W.region ?_
  refine Run.ev (Ev.move rfl) rfl rfl ?_   -- t26
  refine Run.step rfl (Stp.callr en_20 rfl (pitDigits_calls i (by omega) _) rfl ?_)   -- t27
  rintro v27 w27 ⟨rfl, e27⟩
  obtain rfl := e27.symm
  refine Run.ev (Ev.sadd (p := [110]) (q := digP i) rfl rfl (by have := digP_len3 hi; simp; omega)) rfl rfl ?_   -- t28
  refine Run.ev (Ev.move rfl) rfl rfl ?_   -- t29
  refine Run.step rfl (Stp.callr en_20 rfl (pitDigits_calls j (by omega) _) rfl ?_)   -- t30
  rintro v30 w30 ⟨rfl, e30⟩
  obtain rfl := e30.symm
  refine Run.ev (Ev.sadd (p := [110]) (q := digP j) rfl rfl (by have := digP_len3 (n := j) (by omega); simp; omega)) rfl rfl ?_   -- t31
  refine Run.ev (Ev.assign rfl) rfl rfl ?_   -- t13
  refine Run.ev (Ev.assign rfl) rfl rfl ?_   -- t14
  refine Run.nil ?_
  refine At.then ?_
  refine W.seq ?_
  -- region 2 (new1119.go:1520)
  refine W.region ?_
  refine Run.ev (Ev.move rfl) rfl rfl ?_   -- t33
  refine Run.ev (Ev.move rfl) rfl rfl ?_   -- t34
  refine Run.step rfl (Stp.callr en_21 rfl (find_calls pb p (pnP i) w hp (by omega)) rfl ?_)   -- t35
  rintro v35 w35 ⟨rfl, k35⟩
  replace hp := hp.kt0 k35
  replace hs := hs.kt0 k35
  have kt : Kt (fun i => i = pb ∨ i = t.mn) w w35 := k35.mono (fun _ _ h => h.elim)
  refine Run.ev (Ev.move rfl) rfl rfl ?_   -- t32
  refine Run.ev (Ev.extract rfl rfl) rfl rfl ?_   -- t36
  refine Run.ev (Ev.extract rfl rfl) rfl rfl ?_   -- t37
  refine Run.ev (Ev.assign rfl) rfl rfl ?_   -- t15
  refine Run.ev (Ev.assign rfl) rfl rfl ?_   -- t16
  refine Run.nil ?_
  refine At.then ?_
  refine W.seq ?_
  -- region 3 (new1119.go:1521)
  refine W.region ?_
  refine Run.ev (Ev.move rfl) rfl rfl ?_   -- t39
  refine Run.ev (Ev.move rfl) rfl rfl ?_   -- t40
  refine Run.step rfl (Stp.callr en_21 rfl (find_calls pb p (pnP j) w35 hp (by omega)) rfl ?_)   -- t41
  rintro v41 w41 ⟨rfl, k41⟩
  replace hp := hp.kt0 k41
  replace hs := hs.kt0 k41
  replace kt := kt.no k41
  refine Run.ev (Ev.move rfl) rfl rfl ?_   -- t38
  refine Run.ev (Ev.extract rfl rfl) rfl rfl ?_   -- t42
  refine Run.ev (Ev.extract rfl rfl) rfl rfl ?_   -- t43
  refine Run.ev (Ev.assign rfl) rfl rfl ?_   -- t17
  refine Run.ev (Ev.assign rfl) rfl rfl ?_   -- t18
  refine Run.nil ?_
  refine At.then ?_
  refine W.seq ?_
  refine W.seq ?_
  -- region 4 (new1119.go:1522)
  refine W.region ?_
  refine Run.ev (Ev.move rfl) rfl rfl ?_   -- t44
  refine Run.nil ?_
  refine At.then ?_
  refine W.block ?_
  refine W.seq ?_
  -- region 5 (new1119.go:1523)
  refine W.region ?_
  refine Run.ev (Ev.eql (m := 1) (n := 0) (b := false) rfl rfl rfl) rfl rfl ?_   -- t46
  refine Run.ev (Ev.assign rfl) rfl rfl ?_   -- t45
  refine Run.nil ?_
  refine At.then ?_
  refine W.cond_f rfl ?_
  refine W.seq ?_
  -- region 12 (new1119.go:1531)
  refine W.region ?_
  refine Run.ev (Ev.eql (m := 1) (n := 1) (b := true) rfl rfl rfl) rfl rfl ?_   -- t77
  refine Run.ev (Ev.assign rfl) rfl rfl ?_   -- t76
  refine Run.nil ?_
  refine At.then ?_
  refine W.cond_t rfl ?_
  refine W.seq ?_
  -- region 13 (new1119.go:1532)
  refine W.region ?_
  refine Run.ev (Ev.move rfl) rfl rfl ?_   -- t78
  refine Run.ev (Ev.move rfl) rfl rfl ?_   -- t79
  refine Run.step rfl (Stp.callr en_22 rfl (pitFill_calls n j w41 (by omega) (by omega)) rfl ?_)   -- t80
  rintro v80 w80 ⟨rfl, k80⟩
  replace hp := hp.kt0 k80
  replace hs := hs.kt0 k80
  replace kt := kt.no k80
  refine Run.ev (Ev.assign rfl) rfl rfl ?_   -- t21
  refine Run.nil ?_
  refine At.then ?_
  refine W.seq ?_
  -- region 14 (new1119.go:1533)
  refine W.region ?_
  refine Run.ev (Ev.move rfl) rfl rfl ?_   -- t81
  refine Run.ev (Ev.move rfl) rfl rfl ?_   -- t82
  refine Run.ev (Ev.move rfl) rfl rfl ?_   -- t83
  refine Run.step rfl (Stp.callr en_25 rfl (Append_calls sb t (pnP i) (fillP n j) w80 hs (fun n d h => by have := sim_bnd hsim hb h; omega) (by rw [fill_len]; omega)) rfl ?_)   -- t84
  rintro v84 w84 ⟨rfl, hs84, k84⟩
  replace hp := hp.ktm hs.hmn k84
  replace kt := kt.trans k84 (fun i _ h => .inr h)
  refine Run.ev (Ev.assign rfl) rfl rfl ?_   -- t22
  refine Run.nil ?_
  refine At.then ?_
  refine W.seq ?_
  refine W.seq ?_
  -- region 15 (new1119.go:1534)
  refine W.region ?_
  refine Run.ev (Ev.move rfl) rfl rfl ?_   -- t85
  refine Run.ev (Ev.not rfl) rfl rfl ?_   -- t86
  refine Run.nil ?_
  refine At.then ?_
  refine W.cond rfl (fun hc86 => ?_) (fun hc86 => ?_)
  · have hw := ap_f (e := fillP n j) hsim (not_f hc86)
    rw [hw] at hs84
    refine W.seq ?_
    -- region 16 (new1119.go:1535)
    refine W.region ?_
    refine Run.ev (Ev.move rfl) rfl rfl ?_   -- t87
    refine Run.ev (Ev.eql (m := ((appendP t.now (pnP i) (fillP n j)).1 : Int)) (n := 5) rfl rfl rfl) rfl rfl ?_   -- t88
    refine Run.ev (Ev.assign rfl) rfl rfl ?_   -- t12
    refine Run.nil ?_
    refine At.then ?_
    refine W.ret ?_
    refine At.then_ret ?_
    refine At.block_ret ?_
    refine At.then_ret ?_
    exact At.ret1 rfl rfl rfl ⟨by rw [hw]; rfl, t.now, p.nw, p.nv, hs84, hp, hsim, hb, kt⟩
  · have hh := not_t hc86
    have hN := hp.hn
    rw [hnv] at hN
    obtain ⟨g, off, cur, fr, f, hf⟩ := pit_may hN (atP p.nw (pnP i))
    obtain ⟨rfl, hg0, hf1, hf2, hf3, hfj⟩ := hf (has_lt hh)
    obtain ⟨d, hd1, hd2, hd3⟩ := has_t hsim hh
    rw [hd3] at hfj
    cases hfj
    have hdb := sim_bnd hsim hb hd1
    have hlt := has_lt hh
    refine W.skip ?_
    refine At.then ?_
    refine W.seq ?_
    refine W.seq ?_
    -- region 17 (new1119.go:1537)
    refine W.region ?_
    refine Run.ev (Ev.move rfl) rfl rfl ?_   -- t89
    refine Run.ev (Ev.nilCheck rfl) rfl rfl ?_   -- t90
    refine Run.ev (Ev.fieldAddr fo_29_0 rfl rfl) rfl rfl ?_   -- t91
    refine Run.ev (Ev.load (v := .slice (some ⟨g, off, none⟩) p.nw.length pc) sc_27 rfl (cell_of hp.hb (by rw [hnv]; rfl))) rfl rfl ?_   -- t92
    refine Run.ev (Ev.move rfl) rfl rfl ?_   -- t93
    refine Run.ev (Ev.indexAddr Tryz.underlying27 es_68 rfl rfl (by omega) rfl) rfl rfl ?_   -- t94
    refine Run.ev (Ev.fieldAddr fo_68_1 rfl rfl) rfl rfl ?_   -- t95
    refine Run.ev (Ev.load (v := str d) sc_9 rfl (cell_of hg0 hf2)) rfl rfl ?_   -- t96
    refine Run.ev (Ev.slen rfl Tryz.underlying9) rfl rfl ?_   -- t97
    refine Run.ev (Ev.move rfl) rfl rfl ?_   -- t98
    refine Run.ev (Ev.addN (m := d.length) (n := n) rfl rfl (by omega)) rfl rfl ?_   -- t99
    refine Run.ev (Ev.gtr (m := ((d.length + n : Nat) : Int)) (n := 4000) rfl rfl rfl) rfl rfl ?_   -- t100
    refine Run.nil ?_
    refine At.then ?_
    refine W.cond rfl (fun hc100 => ?_) (fun hc100 => ?_)
    · replace hc100 := of_decide_eq_true hc100
      have hw := ap_big (e := fillP n j) hd1 (by rw [fill_len]; omega)
      rw [hw] at hs84
      refine W.seq ?_
      -- region 18 (new1119.go:1538)
      refine W.region ?_
      refine Run.ev (Ev.move rfl) rfl rfl ?_   -- t101
      refine Run.ev (Ev.eql (m := ((appendP t.now (pnP i) (fillP n j)).1 : Int)) (n := 2) rfl rfl rfl) rfl rfl ?_   -- t102
      refine Run.ev (Ev.assign rfl) rfl rfl ?_   -- t12
      refine Run.nil ?_
      refine At.then ?_
      refine W.ret ?_
      refine At.then_ret ?_
      refine At.block_ret ?_
      refine At.then_ret ?_
      exact At.ret1 rfl rfl rfl ⟨by rw [hw]; rfl, t.now, p.nw, p.nv, hs84, hp, hsim, hb, kt⟩
    · replace hc100 := of_decide_eq_false hc100
      have hw := ap_ok (e := fillP n j) hd1 (by rw [fill_len]; omega)
      rw [hw] at hs84
      refine W.skip ?_
      refine At.then ?_
      refine W.seq ?_
      -- region 19 (new1119.go:1540)
      refine W.region ?_
      refine Run.ev (Ev.move rfl) rfl rfl ?_   -- t103
      refine Run.ev (Ev.move rfl) rfl rfl ?_   -- t104
      refine Run.ev (Ev.move rfl) rfl rfl ?_   -- t105
      refine Run.ev (Ev.nilCheck rfl) rfl rfl ?_   -- t106
      refine Run.ev (Ev.fieldAddr fo_29_0 rfl rfl) rfl rfl ?_   -- t107
      refine Run.ev (Ev.load (v := .slice (some ⟨g, off, none⟩) p.nw.length pc) sc_27 rfl (cell_of hp.hb (by rw [hnv]; rfl))) rfl rfl ?_   -- t108
      refine Run.ev (Ev.move rfl) rfl rfl ?_   -- t109
      refine Run.ev (Ev.indexAddr Tryz.underlying27 es_68 rfl rfl (by omega) rfl) rfl rfl ?_   -- t110
      refine Run.ev (Ev.fieldAddr fo_68_1 rfl rfl) rfl rfl ?_   -- t111
      refine Run.ev (Ev.load (v := str d) sc_9 rfl (cell_of hg0 hf2)) rfl rfl ?_   -- t112
      refine Run.ev (Ev.move rfl) rfl rfl ?_   -- t113
      refine Run.ev (Ev.sadd (p := d) (q := fillP n j) rfl rfl (by rw [fill_len]; omega)) rfl rfl ?_   -- t114
      refine Run.step rfl (Stp.callr en_24 rfl (put_calls pb p (pnP i) (d ++ fillP n j) w84 hp (by omega)) rfl ?_)   -- t115
      rintro v115 w115 ⟨rfl, nv, hp115, k115⟩
      replace hs84 := hs84.ktp29 hp k115
      replace kt := kt.trans k115 (fun i _ h => .inl h)
      refine Run.nil ?_
      refine At.then ?_
      refine W.seq ?_
      -- region 20 (new1119.go:1541)
      refine W.region ?_
      refine Run.ev (Ev.move rfl) rfl rfl ?_   -- t116
      refine Run.ev (Ev.eql (m := ((appendP t.now (pnP i) (fillP n j)).1 : Int)) (n := 0) rfl rfl rfl) rfl rfl ?_   -- t117
      refine Run.ev (Ev.assign rfl) rfl rfl ?_   -- t12
      refine Run.nil ?_
      refine At.then ?_
      refine W.ret ?_
      refine At.block_ret ?_
      refine At.then_ret ?_
      exact At.ret1 rfl rfl rfl ⟨by rw [hw]; rfl, _, _, nv, hs84, hp115, hsim.put _ _, bnd_put hb (by omega) (by rw [List.length_append, fill_len]; omega) (.inl hh) (pnP_name hi), kt⟩

theorem change2_calls (sb pb i j n : Nat) (t : Sto) (p : Pit) (w : World) (hs : StoR sb t w) (hp : PitR pb p w) (hsim : Sim t.now p.nw) (hb : Bnd p.nw) (hi : i < 1000) (hj : j ≤ 255) (hn : n ≤ 10000) : Calls P 6 [.pointer (some ⟨pb, 0, none⟩), .pointer (some ⟨sb, 0, none⟩), natv 2, natv i, natv j, natv n].toArray w (Ret (ChR sb pb t p w)) := by
  have hb1 := hb.1
  have hai := pnP_len hi
  have haj := pnP_len (i := j) (by omega)
  refine enterW 182 Tryz.func6 rfl rfl rfl ?_
  refine W.seq ?_
  -- region 0 (new1119.go:1518)
  refine W.region ?_
  refine Run.ev (Ev.assign rfl) rfl rfl ?_   -- t12
  refine Run.nil ?_
  refine At.then ?_
  refine W.seq ?_
  -- region 1 (new1119.go:1519)
  refine W.region ?_
  refine Run.ev (Ev.move rfl) rfl rfl ?_   -- t26
  refine Run.step rfl (Stp.callr en_20 rfl (pitDigits_calls i (by omega) _) rfl ?_)   -- t27
  rintro v27 w27 ⟨rfl, e27⟩
  obtain rfl := e27.symm
  refine Run.ev (Ev.sadd (p := [110]) (q := digP i) rfl rfl (by have := digP_len3 hi; simp; omega)) rfl rfl ?_   -- t28
  refine Run.ev (Ev.move rfl) rfl rfl ?_   -- t29
  refine Run.step rfl (Stp.callr en_20 rfl (pitDigits_calls j (by omega) _) rfl ?_)   -- t30
  rintro v30 w30 ⟨rfl, e30⟩
  obtain rfl := e30.symm
  refine Run.ev (Ev.sadd (p := [110]) (q := digP j) rfl rfl (by have := digP_len3 (n := j) (by omega); simp; omega)) rfl rfl ?_   -- t31
  refine Run.ev (Ev.assign rfl) rfl rfl ?_   -- t13
  refine Run.ev (Ev.assign rfl) rfl rfl ?_   -- t14
  refine Run.nil ?_
  refine At.then ?_
  refine W.seq ?_
  -- region 2 (new1119.go:1520)
  refine W.region ?_
  refine Run.ev (Ev.move rfl) rfl rfl ?_   -- t33
  refine Run.ev (Ev.move rfl) rfl rfl ?_   -- t34
  refine Run.step rfl (Stp.callr en_21 rfl (find_calls pb p (pnP i) w hp (by omega)) rfl ?_)   -- t35
  rintro v35 w35 ⟨rfl, k35⟩
  replace hp := hp.kt0 k35
  replace hs := hs.kt0 k35
  have kt : Kt (fun i => i = pb ∨ i = t.mn) w w35 := k35.mono (fun _ _ h => h.elim)
  refine Run.ev (Ev.move rfl) rfl rfl ?_   -- t32
  refine Run.ev (Ev.extract rfl rfl) rfl rfl ?_   -- t36
  refine Run.ev (Ev.extract rfl rfl) rfl rfl ?_   -- t37
  refine Run.ev (Ev.assign rfl) rfl rfl ?_   -- t15
  refine Run.ev (Ev.assign rfl) rfl rfl ?_   -- t16
  refine Run.nil ?_
  refine At.then ?_
  refine W.seq ?_
  -- region 3 (new1119.go:1521)
  refine W.region ?_
  refine Run.ev (Ev.move rfl) rfl rfl ?_   -- t39
  refine Run.ev (Ev.move rfl) rfl rfl ?_   -- t40
  refine Run.step rfl (Stp.callr en_21 rfl (find_calls pb p (pnP j) w35 hp (by omega)) rfl ?_)   -- t41
  rintro v41 w41 ⟨rfl, k41⟩
  replace hp := hp.kt0 k41
  replace hs := hs.kt0 k41
  replace kt := kt.no k41
  refine Run.ev (Ev.move rfl) rfl rfl ?_   -- t38
  refine Run.ev (Ev.extract rfl rfl) rfl rfl ?_   -- t42
  refine Run.ev (Ev.extract rfl rfl) rfl rfl ?_   -- t43
  refine Run.ev (Ev.assign rfl) rfl rfl ?_   -- t17
  refine Run.ev (Ev.assign rfl) rfl rfl ?_   -- t18
  refine Run.nil ?_
  refine At.then ?_
  refine W.seq ?_
  refine W.seq ?_
  -- region 4 (new1119.go:1522)
  refine W.region ?_
  refine Run.ev (Ev.move rfl) rfl rfl ?_   -- t44
  refine Run.nil ?_
  refine At.then ?_
  refine W.block ?_
  refine W.seq ?_
  -- region 5 (new1119.go:1523)
  refine W.region ?_
  refine Run.ev (Ev.eql (m := 2) (n := 0) (b := false) rfl rfl rfl) rfl rfl ?_   -- t46
  refine Run.ev (Ev.assign rfl) rfl rfl ?_   -- t45
  refine Run.nil ?_
  refine At.then ?_
  refine W.cond_f rfl ?_
  refine W.seq ?_
  -- region 12 (new1119.go:1531)
  refine W.region ?_
  refine Run.ev (Ev.eql (m := 2) (n := 1) (b := false) rfl rfl rfl) rfl rfl ?_   -- t77
  refine Run.ev (Ev.assign rfl) rfl rfl ?_   -- t76
  refine Run.nil ?_
  refine At.then ?_
  refine W.cond_f rfl ?_
  refine W.seq ?_
  -- region 21 (new1119.go:1542)
  refine W.region ?_
  refine Run.ev (Ev.eql (m := 2) (n := 2) (b := true) rfl rfl rfl) rfl rfl ?_   -- t119
  refine Run.ev (Ev.assign rfl) rfl rfl ?_   -- t118
  refine Run.nil ?_
  refine At.then ?_
  refine W.cond_t rfl ?_
  refine W.seq ?_
  -- region 22 (new1119.go:1543)
  refine W.region ?_
  refine Run.ev (Ev.move rfl) rfl rfl ?_   -- t120
  refine Run.ev (Ev.move rfl) rfl rfl ?_   -- t121
  refine Run.step rfl (Stp.callr en_26 rfl (Remove_calls sb t (pnP i) w41 hs) rfl ?_)   -- t122
  rintro v122 w122 ⟨rfl, hs122, k122⟩
  replace hp := hp.ktm hs.hmn k122
  replace kt := kt.trans k122 (fun i _ h => .inr h)
  refine Run.ev (Ev.assign rfl) rfl rfl ?_   -- t23
  refine Run.nil ?_
  refine At.then ?_
  refine W.seq ?_
  refine W.seq ?_
  -- region 23 (new1119.go:1544)
  refine W.region ?_
  refine Run.ev (Ev.move rfl) rfl rfl ?_   -- t123
  refine Run.ev (Ev.not rfl) rfl rfl ?_   -- t124
  refine Run.nil ?_
  refine At.then ?_
  refine W.cond rfl (fun hc124 => ?_) (fun hc124 => ?_)
  · have hw := rm_f hsim (not_f hc124)
    rw [hw] at hs122
    refine W.seq ?_
    -- region 24 (new1119.go:1545)
    refine W.region ?_
    refine Run.ev (Ev.move rfl) rfl rfl ?_   -- t125
    refine Run.ev (Ev.eql (m := ((removeP t.now (pnP i)).1 : Int)) (n := 5) rfl rfl rfl) rfl rfl ?_   -- t126
    refine Run.ev (Ev.assign rfl) rfl rfl ?_   -- t12
    refine Run.nil ?_
    refine At.then ?_
    refine W.ret ?_
    refine At.then_ret ?_
    refine At.block_ret ?_
    refine At.then_ret ?_
    exact At.ret1 rfl rfl rfl ⟨by rw [hw]; rfl, t.now, p.nw, p.nv, hs122, hp, hsim, hb, kt⟩
  · have hh := not_t hc124
    obtain ⟨d, hd1, hd2, hd3⟩ := has_t hsim hh
    have hlt := has_lt hh
    have hw := rm_ok hd1
    rw [hw] at hs122
    refine W.skip ?_
    refine At.then ?_
    refine W.seq ?_
    -- region 25 (new1119.go:1547)
    refine W.region ?_
    refine Run.ev (Ev.move rfl) rfl rfl ?_   -- t127
    refine Run.ev (Ev.move rfl) rfl rfl ?_   -- t128
    refine Run.step rfl (Stp.callr en_27 rfl (drop_calls pb p (atP p.nw (pnP i)) w122 hp hlt (by omega)) rfl ?_)   -- t129
    rintro v129 w129 ⟨rfl, nv, hp129, k129⟩
    replace hs122 := hs122.ktp29 hp k129
    replace kt := kt.trans k129 (fun i _ h => .inl h)
    refine Run.nil ?_
    refine At.then ?_
    refine W.seq ?_
    -- region 26 (new1119.go:1548)
    refine W.region ?_
    refine Run.ev (Ev.move rfl) rfl rfl ?_   -- t130
    refine Run.ev (Ev.eql (m := ((removeP t.now (pnP i)).1 : Int)) (n := 0) rfl rfl rfl) rfl rfl ?_   -- t131
    refine Run.ev (Ev.assign rfl) rfl rfl ?_   -- t12
    refine Run.nil ?_
    refine At.then ?_
    refine W.ret ?_
    refine At.block_ret ?_
    refine At.then_ret ?_
    exact At.ret1 rfl rfl rfl ⟨by rw [hw]; rfl, _, _, nv, hs122, hp129, hsim.drop (by rw [hd2]; rfl), (bnd_drop hb hlt).1, kt⟩

theorem change3_calls (sb pb i j n : Nat) (t : Sto) (p : Pit) (w : World) (hs : StoR sb t w) (hp : PitR pb p w) (hsim : Sim t.now p.nw) (hb : Bnd p.nw) (hi : i < 1000) (hj : j ≤ 255) (hn : n ≤ 10000) : Calls P 6 [.pointer (some ⟨pb, 0, none⟩), .pointer (some ⟨sb, 0, none⟩), natv 3, natv i, natv j, natv n].toArray w (Ret (ChR sb pb t p w)) := by
  have hb1 := hb.1
  have hai := pnP_len hi
  have haj := pnP_len (i := j) (by omega)
  obtain ⟨pp, pc, hnv, hpc1, hpc2⟩ := hp.hn.len
  refine enterW 182 Tryz.func6 rfl rfl rfl ?_
  refine W.seq ?_
  -- region 0 (new1119.go:1518)
  refine W.region ?_
  refine Run.ev (Ev.assign rfl) rfl rfl ?_   -- t12
  refine Run.nil ?_
  refine At.then ?_
  refine W.seq ?_
  -- region 1 (new1119.go:1519)
  refine W.region ?_
  refine Run.ev (Ev.move rfl) rfl rfl ?_   -- t26
  refine Run.step rfl (Stp.callr en_20 rfl (pitDigits_calls i (by omega) _) rfl ?_)   -- t27
  rintro v27 w27 ⟨rfl, e27⟩
  obtain rfl := e27.symm
  refine Run.ev (Ev.sadd (p := [110]) (q := digP i) rfl rfl (by have := digP_len3 hi; simp; omega)) rfl rfl ?_   -- t28
  refine Run.ev (Ev.move rfl) rfl rfl ?_   -- t29
  refine Run.step rfl (Stp.callr en_20 rfl (pitDigits_calls j (by omega) _) rfl ?_)   -- t30
  rintro v30 w30 ⟨rfl, e30⟩
  obtain rfl := e30.symm
  refine Run.ev (Ev.sadd (p := [110]) (q := digP j) rfl rfl (by have := digP_len3 (n := j) (by omega); simp; omega)) rfl rfl ?_   -- t31
  refine Run.ev (Ev.assign rfl) rfl rfl ?_   -- t13
  refine Run.ev (Ev.assign rfl) rfl rfl ?_   -- t14
  refine Run.nil ?_
  refine At.then ?_
  refine W.seq ?_
  -- region 2 (new1119.go:1520)
  refine W.region ?_
  refine Run.ev (Ev.move rfl) rfl rfl ?_   -- t33
  refine Run.ev (Ev.move rfl) rfl rfl ?_   -- t34
  refine Run.step rfl (Stp.callr en_21 rfl (find_calls pb p (pnP i) w hp (by omega)) rfl ?_)   -- t35
  rintro v35 w35 ⟨rfl, k35⟩
  replace hp := hp.kt0 k35
  replace hs := hs.kt0 k35
  have kt : Kt (fun i => i = pb ∨ i = t.mn) w w35 := k35.mono (fun _ _ h => h.elim)
  refine Run.ev (Ev.move rfl) rfl rfl ?_   -- t32
  refine Run.ev (Ev.extract rfl rfl) rfl rfl ?_   -- t36
  refine Run.ev (Ev.extract rfl rfl) rfl rfl ?_   -- t37
  refine Run.ev (Ev.assign rfl) rfl rfl ?_   -- t15
  refine Run.ev (Ev.assign rfl) rfl rfl ?_   -- t16
  refine Run.nil ?_
  refine At.then ?_
  refine W.seq ?_
  -- region 3 (new1119.go:1521)
  refine W.region ?_
  refine Run.ev (Ev.move rfl) rfl rfl ?_   -- t39
  refine Run.ev (Ev.move rfl) rfl rfl ?_   -- t40
  refine Run.step rfl (Stp.callr en_21 rfl (find_calls pb p (pnP j) w35 hp (by omega)) rfl ?_)   -- t41
  rintro v41 w41 ⟨rfl, k41⟩
  replace hp := hp.kt0 k41
  replace hs := hs.kt0 k41
  replace kt := kt.no k41
  refine Run.ev (Ev.move rfl) rfl rfl ?_   -- t38
  refine Run.ev (Ev.extract rfl rfl) rfl rfl ?_   -- t42
  refine Run.ev (Ev.extract rfl rfl) rfl rfl ?_   -- t43
  refine Run.ev (Ev.assign rfl) rfl rfl ?_   -- t17
  refine Run.ev (Ev.assign rfl) rfl rfl ?_   -- t18
  refine Run.nil ?_
  refine At.then ?_
  refine W.seq ?_
  refine W.seq ?_
  -- region 4 (new1119.go:1522)
  refine W.region ?_
  refine Run.ev (Ev.move rfl) rfl rfl ?_   -- t44
  refine Run.nil ?_
  refine At.then ?_
  refine W.block ?_
  refine W.seq ?_
  -- region 5 (new1119.go:1523)
  refine W.region ?_
  refine Run.ev (Ev.eql (m := 3) (n := 0) (b := false) rfl rfl rfl) rfl rfl ?_   -- t46
  refine Run.ev (Ev.assign rfl) rfl rfl ?_   -- t45
  refine Run.nil ?_
  refine At.then ?_
  refine W.cond_f rfl ?_
  refine W.seq ?_
  -- region 12 (new1119.go:1531)
  refine W.region ?_
  refine Run.ev (Ev.eql (m := 3) (n := 1) (b := false) rfl rfl rfl) rfl rfl ?_   -- t77
  refine Run.ev (Ev.assign rfl) rfl rfl ?_   -- t76
  refine Run.nil ?_
  refine At.then ?_
  refine W.cond_f rfl ?_
  refine W.seq ?_
  -- region 21 (new1119.go:1542)
  refine W.region ?_
  refine Run.ev (Ev.eql (m := 3) (n := 2) (b := false) rfl rfl rfl) rfl rfl ?_   -- t119
  refine Run.ev (Ev.assign rfl) rfl rfl ?_   -- t118
  refine Run.nil ?_
  refine At.then ?_
  refine W.cond_f rfl ?_
  refine W.seq ?_
  -- region 27 (new1119.go:1549)
  refine W.region ?_
  refine Run.ev (Ev.eql (m := 3) (n := 3) (b := true) rfl rfl rfl) rfl rfl ?_   -- t133
  refine Run.ev (Ev.assign rfl) rfl rfl ?_   -- t132
  refine Run.nil ?_
  refine At.then ?_
  refine W.cond_t rfl ?_
  refine W.seq ?_
  -- region 28 (new1119.go:1550)
  refine W.region ?_
  refine Run.ev (Ev.move rfl) rfl rfl ?_   -- t134
  refine Run.ev (Ev.move rfl) rfl rfl ?_   -- t135
  refine Run.ev (Ev.move rfl) rfl rfl ?_   -- t136
  refine Run.step rfl (Stp.callr en_28 rfl (Rename_calls sb t (pnP i) (pnP j) w41 hs (by omega)) rfl ?_)   -- t137
  rintro v137 w137 ⟨rfl, hs137, k137⟩
  replace hp := hp.ktm hs.hmn k137
  replace kt := kt.trans k137 (fun i _ h => .inr h)
  refine Run.ev (Ev.assign rfl) rfl rfl ?_   -- t24
  refine Run.nil ?_
  refine At.then ?_
  refine W.seq ?_
  refine W.seq ?_
  -- region 29 (new1119.go:1551)
  refine W.region ?_
  refine Run.ev (Ev.move rfl) rfl rfl ?_   -- t138
  refine Run.ev (Ev.not rfl) rfl rfl ?_   -- t139
  refine Run.nil ?_
  refine At.then ?_
  refine W.cond rfl (fun hc139 => ?_) (fun hc139 => ?_)
  · have hw := rn_f (y := pnP j) hsim (not_f hc139)
    rw [hw] at hs137
    refine W.seq ?_
    -- region 30 (new1119.go:1552)
    refine W.region ?_
    refine Run.ev (Ev.move rfl) rfl rfl ?_   -- t140
    refine Run.ev (Ev.eql (m := ((renameP t.now (pnP i) (pnP j)).1 : Int)) (n := 5) rfl rfl rfl) rfl rfl ?_   -- t141
    refine Run.ev (Ev.assign rfl) rfl rfl ?_   -- t12
    refine Run.nil ?_
    refine At.then ?_
    refine W.ret ?_
    refine At.then_ret ?_
    refine At.block_ret ?_
    refine At.then_ret ?_
    exact At.ret1 rfl rfl rfl ⟨by rw [hw]; rfl, t.now, p.nw, p.nv, hs137, hp, hsim, hb, kt⟩
  · have hh := not_t hc139
    have hN := hp.hn
    rw [hnv] at hN
    obtain ⟨g, off, cur, fr, f, hf⟩ := pit_may hN (atP p.nw (pnP i))
    obtain ⟨rfl, hg0, hf1, hf2, hf3, hfj⟩ := hf (has_lt hh)
    obtain ⟨d, hd1, hd2, hd3⟩ := has_t hsim hh
    rw [hd3] at hfj
    cases hfj
    have hdb := sim_bnd hsim hb hd1
    have hlt := has_lt hh
    refine W.skip ?_
    refine At.then ?_
    refine W.seq ?_
    refine W.seq ?_
    -- region 31 (new1119.go:1554)
    refine W.region ?_
    refine Run.ev (Ev.move rfl) rfl rfl ?_   -- t142
    refine Run.ev (Ev.move rfl) rfl rfl ?_   -- t143
    refine Run.evg rfl rfl (fun hg => (Ev.move rfl)) rfl ?_   -- t144
    refine Run.evg rfl rfl (fun hg => (Ev.move rfl)) rfl ?_   -- t145
    refine Run.evg rfl rfl (fun hg => (Ev.neq (m := (i : Int)) (n := (j : Int)) (ifp hg) (ifp hg) rfl)) rfl ?_   -- t146
    refine Run.ev (Ev.pick_and rfl rfl rfl) rfl rfl ?_   -- t147
    refine Run.nil ?_
    refine At.then ?_
    refine W.cond rfl (fun hc147 => ?_) (fun hc147 => ?_)
    · rw [Bool.and_eq_true] at hc147
      obtain ⟨dj, hj1, _, _⟩ := has_t hsim hc147.1
      have hij : i ≠ j := fun e => by have h := hc147.2; rw [e] at h; simp at h
      have hw := rn_ex hd1 (pnP_name (i := j) (by omega)) ⟨by rw [hj1]; rfl, fun e => hij (pnP_inj e).symm⟩
      rw [hw] at hs137
      refine W.seq ?_
      -- region 32 (new1119.go:1555)
      refine W.region ?_
      refine Run.ev (Ev.move rfl) rfl rfl ?_   -- t148
      refine Run.ev (Ev.eql (m := ((renameP t.now (pnP i) (pnP j)).1 : Int)) (n := 6) rfl rfl rfl) rfl rfl ?_   -- t149
      refine Run.ev (Ev.assign rfl) rfl rfl ?_   -- t12
      refine Run.nil ?_
      refine At.then ?_
      refine W.ret ?_
      refine At.then_ret ?_
      refine At.block_ret ?_
      refine At.then_ret ?_
      exact At.ret1 rfl rfl rfl ⟨by rw [hw]; rfl, t.now, p.nw, p.nv, hs137, hp, hsim, hb, kt⟩
    · have hw := rn_ok (y := pnP j) hd1 (pnP_name (i := j) (by omega)) (by
        rintro ⟨h1, h2⟩
        rw [hsim.eq, ← (has_mget hsim.so).1] at h1
        rw [h1, Bool.true_and] at hc147
        have hij : (i : Int) = j := by simpa using hc147
        exact h2 (by rw [show i = j by omega]))
      rw [hw] at hs137
      refine W.skip ?_
      refine At.then ?_
      refine W.seq ?_
      -- region 33 (new1119.go:1557)
      refine W.region ?_
      refine Run.ev (Ev.move rfl) rfl rfl ?_   -- t150
      refine Run.ev (Ev.nilCheck rfl) rfl rfl ?_   -- t151
      refine Run.ev (Ev.fieldAddr fo_29_0 rfl rfl) rfl rfl ?_   -- t152
      refine Run.ev (Ev.load (v := .slice (some ⟨g, off, none⟩) p.nw.length pc) sc_27 rfl (cell_of hp.hb (by rw [hnv]; rfl))) rfl rfl ?_   -- t153
      refine Run.ev (Ev.move rfl) rfl rfl ?_   -- t154
      refine Run.ev (Ev.indexAddr Tryz.underlying27 es_68 rfl rfl (by omega) rfl) rfl rfl ?_   -- t155
      refine Run.ev (Ev.to (v' := .agg (pfV (pnP i, d)).toArray) rfl (Ev.loadA (vs := pfV (pnP i, d)) ag_68 rfl hg0 hf3 rfl)) rfl rfl ?_   -- t156
      refine Run.step rfl (Stp.alloc zc_68 rfl ?_)   -- t25
      intro a25 w25 e25 k25 b25 z25
      refine Run.step rfl (Stp.storeA (vs := pfV (pnP i, d)) ag_68 rfl rfl rfl (by intro u hu; simp [pfV] at hu; rcases hu with rfl | rfl <;> rfl) b25 (by simp [pfV]) ?_)   -- tNone
      intro wS kS bS zS
      replace bS : wS.heap[a25]? = some (.cells #[str (pnP i), str d] 68 (0, 0)) := bS
      have kn := k25.new kS (by rintro i rfl; omega)
      replace hs137 := hs137.kt0 kn
      have hpb : pb < w137.heap.size := blk_lt hp.hb
      replace hp := hp.kt0 kn
      replace kt := kt.no kn
      refine Run.nil ?_
      refine At.then ?_
      refine W.seq ?_
      -- region 34 (new1119.go:1558)
      refine W.region ?_
      refine Run.ev (Ev.move rfl) rfl rfl ?_   -- t157
      refine Run.ev (Ev.move rfl) rfl rfl ?_   -- t158
      refine Run.step rfl (Stp.callr en_27 rfl (drop_calls pb p (atP p.nw (pnP i)) wS hp hlt (by omega)) rfl ?_)   -- t159
      rintro v159 w159 ⟨rfl, nv, hp159, k159⟩
      replace hs137 := hs137.ktp29 hp k159
      replace kt := kt.trans k159 (fun i _ h => .inl h)
      replace bS := k159.at bS (by omega)
      have hbd := bnd_drop hb hlt
      refine Run.nil ?_
      refine At.then ?_
      refine W.seq ?_
      -- region 35 (new1119.go:1559)
      refine W.region ?_
      refine Run.ev (Ev.move rfl) rfl rfl ?_   -- t160
      refine Run.ev (Ev.move rfl) rfl rfl ?_   -- t161
      refine Run.ev (Ev.fieldAddr fo_68_1 rfl rfl) rfl rfl ?_   -- t162
      refine Run.ev (Ev.load (v := str d) sc_9 rfl (cell_of bS rfl)) rfl rfl ?_   -- t163
      refine Run.step rfl (Stp.callr en_24 rfl (put_calls pb _ (pnP j) d w159 hp159 (by show (dropP p.nw (atP p.nw (pnP i))).length ≤ 1000; omega)) rfl ?_)   -- t164
      rintro v164 w164 ⟨rfl, nv2, hp164, k164⟩
      replace hs137 := hs137.ktp29 hp159 k164
      replace kt := kt.trans k164 (fun i _ h => .inl h)
      refine Run.nil ?_
      refine At.then ?_
      refine W.seq ?_
      -- region 36 (new1119.go:1560)
      refine W.region ?_
      refine Run.ev (Ev.move rfl) rfl rfl ?_   -- t165
      refine Run.ev (Ev.eql (m := ((renameP t.now (pnP i) (pnP j)).1 : Int)) (n := 0) rfl rfl rfl) rfl rfl ?_   -- t166
      refine Run.ev (Ev.assign rfl) rfl rfl ?_   -- t12
      refine Run.nil ?_
      refine At.then ?_
      refine W.ret ?_
      refine At.block_ret ?_
      refine At.then_ret ?_
      exact At.ret1 rfl rfl rfl ⟨by rw [hw]; rfl, _, _, nv2, hs137, hp164, (hsim.drop (by rw [hd2]; rfl)).put _ _, bnd_put (n := pnP j) (d := d) hbd.1 (by omega) (by omega) (.inr (by have := hbd.2; have := hb.1; show (dropP p.nw (atP p.nw (pnP i))).length ≠ 30; omega)) (pnP_name (by omega)), kt⟩


theorem noN (s : Bs) : isNameP ([78] ++ s) = false := by
  unfold isNameP
  refine decide_eq_false fun h => ?_
  have := h.2.2 0 (by simp)
  exact absurd (show nameC 0 78 = true from this) (by decide)
theorem no1 : isNameP [49] = false := by decide
theorem wr_no {now : List (Bs × Bs)} {x d : Bs} (h : isNameP x = false) : writeP now x d = (7, now) := by unfold writeP; rw [if_pos h]
theorem rn_no {now : List (Bs × Bs)} {x y d : Bs} (h : mget now x = some d) (hy : isNameP y = false) : renameP now x y = (7, now) := by unfold renameP; rw [h]; simp only; rw [if_pos hy]

theorem change4t_calls (sb pb i j n : Nat) (t : Sto) (p : Pit) (w : World) (hs : StoR sb t w) (hp : PitR pb p w) (hsim : Sim t.now p.nw) (hb : Bnd p.nw) (hi : i < 1000) (hj : j ≤ 255) (hn : n ≤ 10000) (hh : hasP p.nw (pnP i) = true) : Calls P 6 [.pointer (some ⟨pb, 0, none⟩), .pointer (some ⟨sb, 0, none⟩), natv 4, natv i, natv j, natv n].toArray w (Ret (ChR sb pb t p w)) := by
  have hb1 := hb.1
  have hai := pnP_len hi
  have haj := pnP_len (i := j) (by omega)
  refine enterW 182 Tryz.func6 rfl rfl rfl ?_
  refine W.seq ?_
  -- region 0 (new1119.go:1518)
  refine W.region ?_
  refine Run.ev (Ev.assign rfl) rfl rfl ?_   -- t12
  refine Run.nil ?_
  refine At.then ?_
  refine W.seq ?_
  -- region 1 (new1119.go:1519)
  refine W.region ?_
  refine Run.ev (Ev.move rfl) rfl rfl ?_   -- t26
  refine Run.step rfl (Stp.callr en_20 rfl (pitDigits_calls i (by omega) _) rfl ?_)   -- t27
  rintro v27 w27 ⟨rfl, e27⟩
  obtain rfl := e27.symm
  refine Run.ev (Ev.sadd (p := [110]) (q := digP i) rfl rfl (by have := digP_len3 hi; simp; omega)) rfl rfl ?_   -- t28
  refine Run.ev (Ev.move rfl) rfl rfl ?_   -- t29
  refine Run.step rfl (Stp.callr en_20 rfl (pitDigits_calls j (by omega) _) rfl ?_)   -- t30
  rintro v30 w30 ⟨rfl, e30⟩
  obtain rfl := e30.symm
  refine Run.ev (Ev.sadd (p := [110]) (q := digP j) rfl rfl (by have := digP_len3 (n := j) (by omega); simp; omega)) rfl rfl ?_   -- t31
  refine Run.ev (Ev.assign rfl) rfl rfl ?_   -- t13
  refine Run.ev (Ev.assign rfl) rfl rfl ?_   -- t14
  refine Run.nil ?_
  refine At.then ?_
  refine W.seq ?_
  -- region 2 (new1119.go:1520)
  refine W.region ?_
  refine Run.ev (Ev.move rfl) rfl rfl ?_   -- t33
  refine Run.ev (Ev.move rfl) rfl rfl ?_   -- t34
  refine Run.step rfl (Stp.callr en_21 rfl (find_calls pb p (pnP i) w hp (by omega)) rfl ?_)   -- t35
  rintro v35 w35 ⟨rfl, k35⟩
  replace hp := hp.kt0 k35
  replace hs := hs.kt0 k35
  have kt : Kt (fun i => i = pb ∨ i = t.mn) w w35 := k35.mono (fun _ _ h => h.elim)
  rw [hh]
  refine Run.ev (Ev.move rfl) rfl rfl ?_   -- t32
  refine Run.ev (Ev.extract rfl rfl) rfl rfl ?_   -- t36
  refine Run.ev (Ev.extract rfl rfl) rfl rfl ?_   -- t37
  refine Run.ev (Ev.assign rfl) rfl rfl ?_   -- t15
  refine Run.ev (Ev.assign rfl) rfl rfl ?_   -- t16
  refine Run.nil ?_
  refine At.then ?_
  refine W.seq ?_
  -- region 3 (new1119.go:1521)
  refine W.region ?_
  refine Run.ev (Ev.move rfl) rfl rfl ?_   -- t39
  refine Run.ev (Ev.move rfl) rfl rfl ?_   -- t40
  refine Run.step rfl (Stp.callr en_21 rfl (find_calls pb p (pnP j) w35 hp (by omega)) rfl ?_)   -- t41
  rintro v41 w41 ⟨rfl, k41⟩
  replace hp := hp.kt0 k41
  replace hs := hs.kt0 k41
  replace kt := kt.no k41
  refine Run.ev (Ev.move rfl) rfl rfl ?_   -- t38
  refine Run.ev (Ev.extract rfl rfl) rfl rfl ?_   -- t42
  refine Run.ev (Ev.extract rfl rfl) rfl rfl ?_   -- t43
  refine Run.ev (Ev.assign rfl) rfl rfl ?_   -- t17
  refine Run.ev (Ev.assign rfl) rfl rfl ?_   -- t18
  refine Run.nil ?_
  refine At.then ?_
  refine W.seq ?_
  refine W.seq ?_
  -- region 4 (new1119.go:1522)
  refine W.region ?_
  refine Run.ev (Ev.move rfl) rfl rfl ?_   -- t44
  refine Run.nil ?_
  refine At.then ?_
  refine W.block ?_
  refine W.seq ?_
  -- region 5 (new1119.go:1523)
  refine W.region ?_
  refine Run.ev (Ev.eql (m := 4) (n := 0) (b := false) rfl rfl rfl) rfl rfl ?_   -- t46
  refine Run.ev (Ev.assign rfl) rfl rfl ?_   -- t45
  refine Run.nil ?_
  refine At.then ?_
  refine W.cond_f rfl ?_
  refine W.seq ?_
  -- region 12 (new1119.go:1531)
  refine W.region ?_
  refine Run.ev (Ev.eql (m := 4) (n := 1) (b := false) rfl rfl rfl) rfl rfl ?_   -- t77
  refine Run.ev (Ev.assign rfl) rfl rfl ?_   -- t76
  refine Run.nil ?_
  refine At.then ?_
  refine W.cond_f rfl ?_
  refine W.seq ?_
  -- region 21 (new1119.go:1542)
  refine W.region ?_
  refine Run.ev (Ev.eql (m := 4) (n := 2) (b := false) rfl rfl rfl) rfl rfl ?_   -- t119
  refine Run.ev (Ev.assign rfl) rfl rfl ?_   -- t118
  refine Run.nil ?_
  refine At.then ?_
  refine W.cond_f rfl ?_
  refine W.seq ?_
  -- region 27 (new1119.go:1549)
  refine W.region ?_
  refine Run.ev (Ev.eql (m := 4) (n := 3) (b := false) rfl rfl rfl) rfl rfl ?_   -- t133
  refine Run.ev (Ev.assign rfl) rfl rfl ?_   -- t132
  refine Run.nil ?_
  refine At.then ?_
  refine W.cond_f rfl ?_
  refine W.skip ?_
  refine At.block ?_
  refine At.then ?_
  refine W.seq ?_
  -- region 37 (new1119.go:1562)
  refine W.region ?_
  refine Run.ev (Ev.move rfl) rfl rfl ?_   -- t167
  refine Run.ev (Ev.move rfl) rfl rfl ?_   -- t168
  refine Run.ev (Ev.sadd (p := [78]) (q := pnP i) rfl rfl (by simp; omega)) rfl rfl ?_   -- t169
  refine Run.step rfl (Stp.callr en_23 rfl (Write_calls sb t ([78] ++ pnP i) [] w41 hs (by simp; omega) (by simp)) rfl ?_)   -- t170
  rintro v170 w170 ⟨rfl, hs170, k170⟩
  replace hp := hp.ktm hs.hmn k170
  replace kt := kt.trans k170 (fun i _ h => .inr h)
  rw [wr_no (noN _)] at hs170
  refine Run.ev (Ev.eql (m := ((writeP t.now ([78] ++ pnP i) []).1 : Int)) (n := 7) (b := true) rfl rfl (by rw [wr_no (noN _)]; rfl)) rfl rfl ?_   -- t171
  refine Run.ev (Ev.move rfl) rfl rfl ?_   -- t172
  refine Run.ev (Ev.move rfl) rfl rfl ?_   -- t173
  refine Run.ev (Ev.not rfl) rfl rfl ?_   -- t174
  refine Run.ev (Ev.move rfl) rfl rfl ?_   -- t175
  refine Run.ev (Ev.move rfl) rfl rfl ?_   -- t176
  refine Run.ev (Ev.move rfl) rfl rfl ?_   -- t177
  refine Run.step rfl (Stp.callr en_28 rfl (Rename_calls sb t (pnP i) [49] w170 hs170 (by simp)) rfl ?_)   -- t178
  obtain ⟨d, hd1, hd2, hd3⟩ := has_t hsim hh
  rintro v178 w178 ⟨rfl, hs178, k178⟩
  replace hp := hp.ktm hs170.hmn k178
  replace kt := kt.trans k178 (fun i _ h => .inr h)
  have hw : renameP t.now (pnP i) [49] = (7, t.now) := rn_no hd1 no1
  replace hs178 : StoR sb { t with now := (renameP t.now (pnP i) [49]).2 } w178 := hs178
  rw [hw] at hs178
  refine Run.ev (Ev.eql (m := ((renameP t.now (pnP i) [49]).1 : Int)) (n := 7) (b := true) rfl rfl (by rw [hw]; rfl)) rfl rfl ?_   -- t179
  refine Run.ev (Ev.pick_f rfl rfl) rfl rfl ?_   -- t180
  refine Run.ev (Ev.pick_t rfl rfl) rfl rfl ?_   -- t181
  refine Run.ev (Ev.assign rfl) rfl rfl ?_   -- t12
  refine Run.nil ?_
  refine At.then ?_
  refine W.ret ?_
  exact At.ret1 rfl rfl rfl ⟨rfl, t.now, p.nw, p.nv, hs178, hp, hsim, hb, kt⟩

theorem change4f_calls (sb pb i j n : Nat) (t : Sto) (p : Pit) (w : World) (hs : StoR sb t w) (hp : PitR pb p w) (hsim : Sim t.now p.nw) (hb : Bnd p.nw) (hi : i < 1000) (hj : j ≤ 255) (hn : n ≤ 10000) (hh : hasP p.nw (pnP i) = false) : Calls P 6 [.pointer (some ⟨pb, 0, none⟩), .pointer (some ⟨sb, 0, none⟩), natv 4, natv i, natv j, natv n].toArray w (Ret (ChR sb pb t p w)) := by
  have hb1 := hb.1
  have hai := pnP_len hi
  have haj := pnP_len (i := j) (by omega)
  refine enterW 182 Tryz.func6 rfl rfl rfl ?_
  refine W.seq ?_
  -- region 0 (new1119.go:1518)
  refine W.region ?_
  refine Run.ev (Ev.assign rfl) rfl rfl ?_   -- t12
  refine Run.nil ?_
  refine At.then ?_
  refine W.seq ?_
  -- region 1 (new1119.go:1519)
  refine W.region ?_
  refine Run.ev (Ev.move rfl) rfl rfl ?_   -- t26
  refine Run.step rfl (Stp.callr en_20 rfl (pitDigits_calls i (by omega) _) rfl ?_)   -- t27
  rintro v27 w27 ⟨rfl, e27⟩
  obtain rfl := e27.symm
  refine Run.ev (Ev.sadd (p := [110]) (q := digP i) rfl rfl (by have := digP_len3 hi; simp; omega)) rfl rfl ?_   -- t28
  refine Run.ev (Ev.move rfl) rfl rfl ?_   -- t29
  refine Run.step rfl (Stp.callr en_20 rfl (pitDigits_calls j (by omega) _) rfl ?_)   -- t30
  rintro v30 w30 ⟨rfl, e30⟩
  obtain rfl := e30.symm
  refine Run.ev (Ev.sadd (p := [110]) (q := digP j) rfl rfl (by have := digP_len3 (n := j) (by omega); simp; omega)) rfl rfl ?_   -- t31
  refine Run.ev (Ev.assign rfl) rfl rfl ?_   -- t13
  refine Run.ev (Ev.assign rfl) rfl rfl ?_   -- t14
  refine Run.nil ?_
  refine At.then ?_
  refine W.seq ?_
  -- region 2 (new1119.go:1520)
  refine W.region ?_
  refine Run.ev (Ev.move rfl) rfl rfl ?_   -- t33
  refine Run.ev (Ev.move rfl) rfl rfl ?_   -- t34
  refine Run.step rfl (Stp.callr en_21 rfl (find_calls pb p (pnP i) w hp (by omega)) rfl ?_)   -- t35
  rintro v35 w35 ⟨rfl, k35⟩
  replace hp := hp.kt0 k35
  replace hs := hs.kt0 k35
  have kt : Kt (fun i => i = pb ∨ i = t.mn) w w35 := k35.mono (fun _ _ h => h.elim)
  rw [hh]
  refine Run.ev (Ev.move rfl) rfl rfl ?_   -- t32
  refine Run.ev (Ev.extract rfl rfl) rfl rfl ?_   -- t36
  refine Run.ev (Ev.extract rfl rfl) rfl rfl ?_   -- t37
  refine Run.ev (Ev.assign rfl) rfl rfl ?_   -- t15
  refine Run.ev (Ev.assign rfl) rfl rfl ?_   -- t16
  refine Run.nil ?_
  refine At.then ?_
  refine W.seq ?_
  -- region 3 (new1119.go:1521)
  refine W.region ?_
  refine Run.ev (Ev.move rfl) rfl rfl ?_   -- t39
  refine Run.ev (Ev.move rfl) rfl rfl ?_   -- t40
  refine Run.step rfl (Stp.callr en_21 rfl (find_calls pb p (pnP j) w35 hp (by omega)) rfl ?_)   -- t41
  rintro v41 w41 ⟨rfl, k41⟩
  replace hp := hp.kt0 k41
  replace hs := hs.kt0 k41
  replace kt := kt.no k41
  refine Run.ev (Ev.move rfl) rfl rfl ?_   -- t38
  refine Run.ev (Ev.extract rfl rfl) rfl rfl ?_   -- t42
  refine Run.ev (Ev.extract rfl rfl) rfl rfl ?_   -- t43
  refine Run.ev (Ev.assign rfl) rfl rfl ?_   -- t17
  refine Run.ev (Ev.assign rfl) rfl rfl ?_   -- t18
  refine Run.nil ?_
  refine At.then ?_
  refine W.seq ?_
  refine W.seq ?_
  -- region 4 (new1119.go:1522)
  refine W.region ?_
  refine Run.ev (Ev.move rfl) rfl rfl ?_   -- t44
  refine Run.nil ?_
  refine At.then ?_
  refine W.block ?_
  refine W.seq ?_
  -- region 5 (new1119.go:1523)
  refine W.region ?_
  refine Run.ev (Ev.eql (m := 4) (n := 0) (b := false) rfl rfl rfl) rfl rfl ?_   -- t46
  refine Run.ev (Ev.assign rfl) rfl rfl ?_   -- t45
  refine Run.nil ?_
  refine At.then ?_
  refine W.cond_f rfl ?_
  refine W.seq ?_
  -- region 12 (new1119.go:1531)
  refine W.region ?_
  refine Run.ev (Ev.eql (m := 4) (n := 1) (b := false) rfl rfl rfl) rfl rfl ?_   -- t77
  refine Run.ev (Ev.assign rfl) rfl rfl ?_   -- t76
  refine Run.nil ?_
  refine At.then ?_
  refine W.cond_f rfl ?_
  refine W.seq ?_
  -- region 21 (new1119.go:1542)
  refine W.region ?_
  refine Run.ev (Ev.eql (m := 4) (n := 2) (b := false) rfl rfl rfl) rfl rfl ?_   -- t119
  refine Run.ev (Ev.assign rfl) rfl rfl ?_   -- t118
  refine Run.nil ?_
  refine At.then ?_
  refine W.cond_f rfl ?_
  refine W.seq ?_
  -- region 27 (new1119.go:1549)
  refine W.region ?_
  refine Run.ev (Ev.eql (m := 4) (n := 3) (b := false) rfl rfl rfl) rfl rfl ?_   -- t133
  refine Run.ev (Ev.assign rfl) rfl rfl ?_   -- t132
  refine Run.nil ?_
  refine At.then ?_
  refine W.cond_f rfl ?_
  refine W.skip ?_
  refine At.block ?_
  refine At.then ?_
  refine W.seq ?_
  -- region 37 (new1119.go:1562)
  refine W.region ?_
  refine Run.ev (Ev.move rfl) rfl rfl ?_   -- t167
  refine Run.ev (Ev.move rfl) rfl rfl ?_   -- t168
  refine Run.ev (Ev.sadd (p := [78]) (q := pnP i) rfl rfl (by simp; omega)) rfl rfl ?_   -- t169
  refine Run.step rfl (Stp.callr en_23 rfl (Write_calls sb t ([78] ++ pnP i) [] w41 hs (by simp; omega) (by simp)) rfl ?_)   -- t170
  rintro v170 w170 ⟨rfl, hs170, k170⟩
  replace hp := hp.ktm hs.hmn k170
  replace kt := kt.trans k170 (fun i _ h => .inr h)
  rw [wr_no (noN _)] at hs170
  refine Run.ev (Ev.eql (m := ((writeP t.now ([78] ++ pnP i) []).1 : Int)) (n := 7) (b := true) rfl rfl (by rw [wr_no (noN _)]; rfl)) rfl rfl ?_   -- t171
  refine Run.ev (Ev.move rfl) rfl rfl ?_   -- t172
  refine Run.ev (Ev.move rfl) rfl rfl ?_   -- t173
  refine Run.ev (Ev.not rfl) rfl rfl ?_   -- t174
  refine Run.ev (Ev.move rfl) rfl rfl ?_   -- t175
  refine Run.off rfl rfl ?_   -- t176
  refine Run.off rfl rfl ?_   -- t177
  refine Run.off rfl rfl ?_   -- t178
  refine Run.off rfl rfl ?_   -- t179
  refine Run.ev (Ev.pick_t rfl rfl) rfl rfl ?_   -- t180
  refine Run.ev (Ev.pick_t rfl rfl) rfl rfl ?_   -- t181
  refine Run.ev (Ev.assign rfl) rfl rfl ?_   -- t12
  refine Run.nil ?_
  refine At.then ?_
  refine W.ret ?_
  exact At.ret1 rfl rfl rfl ⟨rfl, t.now, p.nw, p.nv, hs170, hp, hsim, hb, kt⟩


theorem change_calls (sb pb op i j n : Nat) (t : Sto) (p : Pit) (w : World) (ho : op ≤ 4) (hs : StoR sb t w) (hp : PitR pb p w) (hsim : Sim t.now p.nw) (hb : Bnd p.nw) (hi : i < 1000) (hj : j ≤ 255) (hn : n ≤ 10000) : Calls P 6 [.pointer (some ⟨pb, 0, none⟩), .pointer (some ⟨sb, 0, none⟩), natv op, natv i, natv j, natv n].toArray w (Ret (ChR sb pb t p w)) := by
  match op, ho with
  | 0, _ => exact change0_calls sb pb i j n t p w hs hp hsim hb hi hj hn
  | 1, _ => exact change1_calls sb pb i j n t p w hs hp hsim hb hi hj hn
  | 2, _ => exact change2_calls sb pb i j n t p w hs hp hsim hb hi hj hn
  | 3, _ => exact change3_calls sb pb i j n t p w hs hp hsim hb hi hj hn
  | 4, _ =>
    cases hh : hasP p.nw (pnP i) with
    | true => exact change4t_calls sb pb i j n t p w hs hp hsim hb hi hj hn hh
    | false => exact change4f_calls sb pb i j n t p w hs hp hsim hb hi hj hn hh

end Go.Proofs.YtlcgeepjekcfgaaGreat
