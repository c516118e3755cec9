/- Stores: the free pages. -/
import Derived.Test.YtlcgeepjekcfgaaGreatV
namespace Go.Proofs.YtlcgeepjekcfgaaGreat
open Go.RowKit
set_option linter.unusedVariables false
set_option linter.unusedSimpArgs false


/-- Block b is a map of these pages. -/
def UsedM (w : World) (b : Nat) (U : List Nat) : Prop := ∃ m, MapR i64v w b m ∧ ∀ k : Nat, (mget m (k : Int)).getD (.bool false) = .bool (decide (k ∈ U))
theorem UsedM.kt {S : Nat → Prop} {w w' : World} {b : Nat} {U : List Nat} (h : UsedM w b U) (hk : Kt S w w') (hn : ¬ S b) : UsedM w' b U := by
  obtain ⟨m, h1, h2⟩ := h
  exact ⟨m, h1.kt hk hn, h2⟩
theorem UsedM.kt0 {w w' : World} {b : Nat} {U : List Nat} (h : UsedM w b U) (hk : Kt No w w') : UsedM w' b U := h.kt hk id
theorem UsedM.put {w : World} {b k : Nat} {m : List (Int × Value)} {U : List Nat} (h : MapR i64v w b (mset m (k : Int) (.bool true))) (h2 : ∀ k : Nat, (mget m (k : Int)).getD (.bool false) = .bool (decide (k ∈ U))) : UsedM w b (U ++ [k]) := by
  refine ⟨_, h, fun j => ?_⟩
  rw [mget_mset]
  by_cases hj : (j : Int) = (k : Int)
  · have : j = k := by omega
    subst this; simp
  · rw [if_neg hj, h2 j]
    have : j ≠ k := by omega
    simp [this]
def usedP (t : Sto) : List Nat := t.dl ++ t.fs.flatMap fun p => p.2.2.1
def freeTo (U : List Nat) (n : Nat) : List Nat := (List.range n).filter fun p => decide (2 ≤ p ∧ p ∉ U)
def freeP (t : Sto) : List Nat := freeTo (usedP t) 256
theorem freeTo_succ (U : List Nat) (n : Nat) : freeTo U (n + 1) = freeTo U n ++ if 2 ≤ n ∧ n ∉ U then [n] else [] := by
  simp only [freeTo, List.range_succ, List.filter_append]
  by_cases h : 2 ≤ n ∧ n ∉ U
  · rw [if_pos h]; simp [h]
  · rw [if_neg h]
    have : decide (2 ≤ n ∧ n ∉ U) = false := by simpa using h
    simp only [List.filter_cons, List.filter_nil, this]; rfl
theorem freeTo_two (U : List Nat) : freeTo U 2 = [] := by
  rw [freeTo_succ, freeTo_succ]; simp [freeTo]
theorem freeTo_len (U : List Nat) (n : Nat) : (freeTo U n).length ≤ n := by
  have := List.length_filter_le (fun p => decide (2 ≤ p ∧ p ∉ U)) (List.range n)
  simpa [freeTo] using this
theorem freeTo_congr {U V : List Nat} (h : ∀ k, k ∈ U ↔ k ∈ V) (n : Nat) : freeTo U n = freeTo V n := by
  unfold freeTo
  apply List.filter_congr
  intro x _
  simp only [h x]


theorem UsedM.lt {w : World} {b : Nat} {U : List Nat} (h : UsedM w b U) : b < w.heap.size := by obtain ⟨m, h1, _⟩ := h; exact h1.lt
theorem mem_used {l l1 : List (Bs × FV)} {f : Bs × FV} {U : List Nat} (hpl : l.Perm (f :: l1)) {k : Nat} : k ∈ (U ++ f.2.2.1) ++ l1.flatMap (fun p => p.2.2.1) ↔ k ∈ U ++ l.flatMap (fun p => p.2.2.1) := by
  have h1 : k ∈ l.flatMap (fun p => p.2.2.1) ↔ k ∈ (f :: l1).flatMap (fun p => p.2.2.1) := by
    simp only [List.mem_flatMap]
    constructor
    · rintro ⟨q, hq, hk⟩; exact ⟨q, hpl.mem_iff.1 hq, hk⟩
    · rintro ⟨q, hq, hk⟩; exact ⟨q, hpl.mem_iff.2 hq, hk⟩
  rw [List.append_assoc, List.mem_append, List.mem_append, List.mem_append, h1]
  simp

theorem free_calls (b : Nat) (t : Sto) (w : World) (h : StoR b t w) : Calls P 35 [.pointer (some ⟨b, 0, none⟩)].toArray w (Ret fun v w' => w'.ownsRow 0 3 1 v (freeP t).length ((freeP t).map natv) ∧ Kt No w w' ∧ ∀ k, v.ownBlock = some k → w.heap.size ≤ k) := by
  refine enterW 59 Tryz.func35 rfl rfl rfl ?_
  refine W.seq ?_
  -- region 0 (store.go:115)
  refine W.region ?_
  refine Run.ev (Ev.assign rfl) rfl rfl ?_   -- t2
  refine Run.nil ?_
  refine At.then ?_
  refine W.seq ?_
  -- region 1 (store.go:116)
  refine W.region ?_
  refine Run.step rfl (Stp.makeMap rfl ?_)   -- t12
  intro a12 w12 e12 k12 b12 z12
  have hu : UsedM w12 a12 [] := ⟨[], MapR.empty b12, fun k => rfl⟩
  have hmb := h.q.hf.1.lt
  have hd0 := h.q.hd
  obtain ⟨pd, cd, hdv, hc1, hc2⟩ := hd0.len
  have hml := maxLen_le
  refine Run.ev (Ev.assign rfl) rfl rfl ?_   -- t3
  refine Run.nil ?_
  refine At.then ?_
  refine W.seq ?_
  refine W.seq ?_
  -- region 2 (store.go:117)
  refine W.region ?_
  refine Run.ev (Ev.move rfl) rfl rfl ?_   -- t13
  refine Run.ev (Ev.nilCheck rfl) rfl rfl ?_   -- t14
  refine Run.ev (Ev.fieldAddr fo_57_0 rfl rfl) rfl rfl ?_   -- t15
  refine Run.ev (Ev.fieldAddr fo_50_3 rfl rfl) rfl rfl ?_   -- t16
  refine Run.ev (Ev.load sc_48 rfl (cell_of (k12.at0 h.q.hb) rfl)) rfl rfl ?_   -- t17
  refine Run.ev (Ev.len (by show some t.dv = some (.slice pd t.dl.length cd); rw [hdv]) Tryz.underlying48) rfl rfl ?_   -- t18
  refine Run.ev (Ev.move rfl) rfl rfl ?_   -- t19
  refine Run.nil ?_
  refine At.then ?_
  refine W.block ?_
  refine W.loop (fun (j : Nat) => [(0, .pointer (some ⟨b, 0, none⟩)), (3, .map (some a12)), (17, .slice pd t.dl.length cd), (18, natv t.dl.length), (19, natv j)])
    (fun j w' => j ≤ t.dl.length ∧ Kt No w w' ∧ UsedM w' a12 (t.dl.take j)) (fun j => t.dl.length - j) 0 ⟨Nat.zero_le _, k12, by simpa using hu⟩ (Env.sub_cons rfl (Env.sub_cons rfl (Env.sub_cons (by show some t.dv = _; rw [hdv]) (Env.sub_cons rfl (Env.sub_cons rfl (Env.sub_nil _)))))) ?_
  rintro j w1 ⟨hj, hk1, hu1⟩
  refine W.seq ?_
  -- region 3 (store.go:117)
  refine W.region ?_
  refine Run.ev (Ev.lss rfl rfl rfl) rfl rfl ?_   -- t20
  refine Run.nil ?_
  refine At.then ?_
  refine W.seq ?_
  refine W.cond rfl (fun hc20 => ?_) (fun hc20 => ?_)
  · replace hc20 := of_decide_eq_true hc20
    obtain ⟨c, hc⟩ : ∃ c, t.dl[j]? = some c := ⟨_, List.getElem?_eq_getElem (by omega)⟩
    rw [hdv] at hd0
    obtain ⟨bd, od, rfl⟩ := hd0.ptr (by omega)
    have hcell := (hd0.kt0 hk1).cell1 (j := j) (u := natv c) (by simp [hc]) (m := od + ((j : Nat) : Int).toNat * 1) (by omega)
    obtain ⟨m, hm, hmm⟩ := hu1
    refine W.skip ?_
    refine At.then ?_
    refine W.seq ?_
    refine W.block ?_
    refine W.seq ?_
    -- region 4 (store.go:117)
    refine W.region ?_
    refine Run.ev (Ev.indexAddr Tryz.underlying48 es_3 rfl rfl (by omega) rfl) rfl rfl ?_   -- t21
    refine Run.ev (Ev.load sc_3 rfl hcell) rfl rfl ?_   -- t22
    refine Run.ev (Ev.assign rfl) rfl rfl ?_   -- t5
    refine Run.nil ?_
    refine At.then ?_
    -- region 5 (store.go:118)
    refine W.region ?_
    refine Run.ev (Ev.move rfl) rfl rfl ?_   -- t23
    refine Run.ev (Ev.move rfl) rfl rfl ?_   -- t24
    refine Run.step rfl (Stp.mapUpdate (m := m) (k := ((c : Nat) : Int)) (keyInt .i64) Tryz.underlying86 Tryz.underlying3 rfl rfl rfl hm ?_)   -- tNone
    intro wU kU bU zU
    have hu2 := UsedM.put bU hmm
    rw [← take_snoc hc] at hu2
    refine Run.nil ?_
    refine At.block ?_
    refine At.then ?_
    -- region 6 (store.go:117)
    refine W.region ?_
    refine Run.ev (Ev.add rfl rfl (by omega)) rfl rfl ?_   -- t25
    refine Run.ev (Ev.move rfl) rfl rfl ?_   -- t19
    refine Run.nil ?_
    exact At.round (j + 1) (Env.sub_cons rfl (Env.sub_cons rfl (Env.sub_cons rfl (Env.sub_cons rfl (Env.sub_cons rfl (Env.sub_nil _)))))) ⟨by omega, hk1.new kU (by rintro i rfl; omega), hu2⟩ (by omega)
  · replace hc20 := of_decide_eq_false hc20
    obtain rfl : j = t.dl.length := by omega
    rw [List.take_length] at hu1
    refine W.exit ?_
    refine At.then_exit ?_
    refine At.then_exit ?_
    refine At.block_here ?_
    refine At.then ?_
    refine W.seq ?_
    refine W.seq ?_
    -- region 7 (store.go:120)
    refine W.region ?_
    refine Run.ev (Ev.move rfl) rfl rfl ?_   -- t26
    refine Run.ev (Ev.nilCheck rfl) rfl rfl ?_   -- t27
    refine Run.ev (Ev.fieldAddr fo_57_0 rfl rfl) rfl rfl ?_   -- t28
    refine Run.ev (Ev.fieldAddr fo_50_2 rfl rfl) rfl rfl ?_   -- t29
    refine Run.ev (Ev.load sc_47 rfl (cell_of (hk1.at0 h.q.hb) rfl)) rfl rfl ?_   -- t30
    refine Run.step rfl (Stp.range Tryz.underlying47 rfl (h.q.hf.1.kt0 hk1) rfl ?_)   -- t31
    intro a31 w31 e31 k31 b31 z31
    have l1 := hu1.lt
    have s1 := hk1.size
    have n31 : ¬ a12 = a31 := by omega
    have hkw : Kt No w w31 := hk1.no k31
    replace hu1 := hu1.kt0 k31
    refine Run.nil ?_
    refine At.then ?_
    refine W.block ?_
    refine W.loop (fun (x : List (Bs × FV) × List Nat) => [(3, .map (some a12)), (31, .pointer (some ⟨a31, 0, none⟩))])
      (fun x w' => Kt No w w' ∧ UsedM w' a12 x.2 ∧ IterR str w' a31 t.mb (filesV x.1) ∧ (∀ k, k ∈ x.2 ++ x.1.flatMap (fun p => p.2.2.1) ↔ k ∈ usedP t) ∧ ∀ q ∈ x.1, q ∈ t.fs)
      (fun x => x.1.length) (t.fs, t.dl) ⟨hkw, hu1, b31, fun k => Iff.rfl, fun q hq => hq⟩ (Env.sub_cons rfl (Env.sub_cons rfl (Env.sub_nil _))) ?_
    clear hu1 b31 hkw
    rintro ⟨l, U⟩ wl ⟨kt, hu, hit, hU, hin⟩
    dsimp only at hu hit hU hin
    have hl31 := hit.lt
    have hl12 := hu.lt
    have hks := kt.size
    refine W.seq ?_
    -- region 8 (store.go:120)
    refine W.region ?_
    refine Run.step rfl (Stp.next rfl (hit) rfl ?_ ?_)   -- t32
    · intro hl0 w32 k32 z32
      obtain rfl : l = [] := by cases l with | nil => rfl | cons x r => cases hl0
      replace hu := hu.kt0 k32
      replace kt := kt.no k32
      have hfr := fun n => freeTo_congr (U := U) (V := usedP t) (fun k => by simpa using hU k) n
      obtain ⟨m, hm, hmm⟩ := hu
      have hml2 := hm.lt
      refine Run.ev (Ev.extract rfl rfl) rfl rfl ?_   -- t33
      refine Run.nil ?_
      refine At.then ?_
      refine W.seq ?_
      refine W.cond_f rfl ?_
      refine W.exit ?_
      refine At.then_exit ?_
      refine At.then_exit ?_
      refine At.block_here ?_
      refine At.then ?_
      refine W.seq ?_
      -- region 15 (store.go:125)
      refine W.region ?_
      refine Run.ev (Ev.assign rfl) rfl rfl ?_   -- t10
      refine Run.nil ?_
      refine At.then ?_
      refine W.seq ?_
      refine W.seq ?_
      -- region 16 (store.go:126)
      refine W.region ?_
      refine Run.ev (Ev.assign rfl) rfl rfl ?_   -- t11
      refine Run.nil ?_
      refine At.then ?_
      refine W.block ?_
      refine W.loop (fun (x : Nat × Value) => [(3, .map (some a12)), (10, x.2), (11, natv x.1)])
        (fun x w' => 2 ≤ x.1 ∧ x.1 ≤ 256 ∧ Kt No w w' ∧ MapR i64v w' a12 m ∧ w'.ownsRow 0 3 1 x.2 (freeTo U x.1).length ((freeTo U x.1).map natv) ∧ ∀ k, x.2.ownBlock = some k → w.heap.size ≤ k)
        (fun x => 256 - x.1) (2, .slice none 0 0) ⟨Nat.le_refl _, by decide, kt, hm, by rw [freeTo_two]; exact ⟨by simp, .inl ⟨rfl, rfl⟩⟩, fun k hk => by cases hk⟩ (Env.sub_cons rfl (Env.sub_cons rfl (Env.sub_cons rfl (Env.sub_nil _)))) ?_
      clear hm kt
      rintro ⟨n, v⟩ w3 ⟨hn2, hn, kt, hm, ho, hf⟩
      dsimp only at hn2 hn ho hf
      show W _ _ _ [(3, .map (some a12)), (10, v), (11, natv n)] w3
      have hfl := freeTo_len U n
      refine W.seq ?_
      refine W.seq ?_
      -- region 17 (store.go:126)
      refine W.region ?_
      refine Run.ev (Ev.move rfl) rfl rfl ?_   -- t46
      refine Run.ev (Ev.lss rfl rfl rfl) rfl rfl ?_   -- t47
      refine Run.nil ?_
      refine At.then ?_
      refine W.cond rfl (fun hc47 => ?_) (fun hc47 => ?_)
      · replace hc47 := of_decide_eq_true hc47
        refine W.skip ?_
        refine At.then ?_
        refine W.seq ?_
        refine W.block ?_
        refine W.seq ?_
        -- region 19 (store.go:127)
        refine W.region ?_
        refine Run.ev (Ev.move rfl) rfl rfl ?_   -- t50
        refine Run.ev (Ev.move rfl) rfl rfl ?_   -- t51
        refine Run.ev (Ev.to (hmm n) (Ev.lookup (m := m) (k := (n : Int)) (keyInt .i64) Tryz.underlying86 Tryz.underlying3 zv_4 rfl rfl hm)) rfl rfl ?_   -- t52
        refine Run.ev (Ev.not rfl) rfl rfl ?_   -- t53
        refine Run.nil ?_
        refine At.then ?_
        refine W.cond rfl (fun hc53 => ?_) (fun hc53 => ?_)
        · have hs : freeTo U (n + 1) = freeTo U n ++ [n] := by rw [freeTo_succ, if_pos]; exact ⟨hn2, by simpa using hc53⟩
          -- region 20 (store.go:128)
          refine W.region ?_
          refine Run.ev (Ev.move rfl) rfl rfl ?_   -- t54
          refine Run.ev (Ev.move rfl) rfl rfl ?_   -- t55
          refine Run.step rfl (Stp.bslice1 Tryz.underlying48 ei_3 rfl (by decide) (by decide) rfl rfl rfl ?_)   -- t56
          intro a56 w56 e56 k56 b56 z56
          refine Run.step rfl (Stp.append (n := (freeTo U n).length) (m := 1) Tryz.underlying48 ei_3 rfl (by decide) rfl rfl (k56.own0 ho) b56 (natv_one _) (by omega) (by omega) rfl ?_)   -- t57
          intro v57 w57 o57 k57 n57
          have hkm : v.ownBlock = some a12 → False := fun e => (hm.kt0 k56).ne_own2 (k56.own0 ho) e rfl
          have s56 := k56.size
          have s3 := kt.size
          refine Run.ev (Ev.assign rfl) rfl rfl ?_   -- t10
          refine Run.nil ?_
          refine At.block ?_
          refine At.then ?_
          -- region 18 (store.go:126)
          refine W.region ?_
          refine Run.ev (Ev.move rfl) rfl rfl ?_   -- t48
          refine Run.ev (Ev.add rfl rfl (by omega)) rfl rfl ?_   -- t49
          refine Run.ev (Ev.assign rfl) rfl rfl ?_   -- t11
          refine Run.nil ?_
          exact At.round (n + 1, v57) (Env.sub_cons rfl (Env.sub_cons rfl (Env.sub_cons rfl (Env.sub_nil _)))) ⟨by omega, by omega, (kt.no k56).new k57 (fun i hi => hf i hi), (hm.kt0 k56).kt k57 hkm, by rw [hs]; simpa [natv_cells] using o57, fun k hk => (n57 k hk).elim (hf k) (fun hh => by omega)⟩ (by show 256 - (n + 1) < 256 - n; omega)
        · have hs : freeTo U (n + 1) = freeTo U n := by rw [freeTo_succ, if_neg, List.append_nil]; rintro ⟨_, h2⟩; simp [h2] at hc53
          refine W.skip ?_
          refine At.block ?_
          refine At.then ?_
          -- region 18 (store.go:126)
          refine W.region ?_
          refine Run.ev (Ev.move rfl) rfl rfl ?_   -- t48
          refine Run.ev (Ev.add rfl rfl (by omega)) rfl rfl ?_   -- t49
          refine Run.ev (Ev.assign rfl) rfl rfl ?_   -- t11
          refine Run.nil ?_
          exact At.round (n + 1, v) (Env.sub_cons rfl (Env.sub_cons rfl (Env.sub_cons rfl (Env.sub_nil _)))) ⟨by omega, by omega, kt, hm, by rw [hs]; exact ho, hf⟩ (by show 256 - (n + 1) < 256 - n; omega)
      · replace hc47 := of_decide_eq_false hc47
        obtain rfl : n = 256 := by omega
        refine W.exit ?_
        refine At.then_exit ?_
        refine At.then_exit ?_
        refine At.block_here ?_
        refine At.then ?_
        refine W.seq ?_
        -- region 21 (store.go:131)
        refine W.region ?_
        refine Run.ev (Ev.move rfl) rfl rfl ?_   -- t58
        refine Run.ev (Ev.assign rfl) rfl rfl ?_   -- t2
        refine Run.nil ?_
        refine At.then ?_
        refine W.ret ?_
        have e2 : freeTo U 256 = freeP t := hfr 256
        rw [e2] at ho
        exact At.ret1 rfl rfl rfl ⟨ho, kt, hf⟩
    · intro k v left1 w32 hp1 k32 hit1 hent z32
      obtain ⟨f, l1, hpl, hf1, rfl⟩ := perm_map_cons hp1
      cases hf1
      replace hu := hu.kt k32 (by omega)
      replace kt := kt.new k32 (by rintro i rfl; omega)
      have hfs := hin f (hpl.mem_iff.2 List.mem_cons_self)
      refine Run.ev (Ev.extract rfl rfl) rfl rfl ?_   -- t33
      refine Run.nil ?_
      refine At.then ?_
      refine W.seq ?_
      refine W.cond_t rfl ?_
      refine W.skip ?_
      refine At.then ?_
      refine W.block ?_
      refine W.seq ?_
      -- region 9 (store.go:120)
      refine W.region ?_
      refine Run.ev (Ev.entry rfl hent) rfl rfl ?_   -- t34
      refine Run.ev (Ev.extract rfl rfl) rfl rfl ?_   -- t35
      refine Run.step rfl (Stp.alloc zc_76 rfl ?_)   -- t7
      intro a7 w7 e7 k7 b7 z7
      replace hu := hu.kt0 k7
      replace hit1 := hit1.kt k7 id id
      replace kt := kt.no k7
      have hfv : Sl w7 3 1 f.2.2.2 f.2.2.1.length (f.2.2.1.map natv) := (h.q.hf.2 f hfs).kt0 kt
      have hu7 := hu.lt
      have hi7 := hit1.lt
      refine Run.step rfl (Stp.storeA (vs := [str f.2.1, f.2.2.2]) ag_76 rfl rfl rfl (fv_one hfv) b7 (by simp) ?_)   -- tNone
      intro wT kT bT zT
      replace hu := hu.kt kT (by omega)
      replace hit1 := hit1.kt kT (by omega) (by omega)
      replace kt := kt.new kT (by rintro i rfl; omega)
      replace hfv := (h.q.hf.2 f hfs).kt0 kt
      obtain ⟨pf, cf, hfvv, hf1, hf2⟩ := hfv.len
      refine Run.nil ?_
      refine At.then ?_
      refine W.seq ?_
      -- region 10 (store.go:121)
      refine W.region ?_
      refine Run.ev (Ev.fieldAddr fo_76_1 rfl rfl) rfl rfl ?_   -- t36
      refine Run.ev (Ev.load (v := f.2.2.2) sc_48 rfl (cell_of bT rfl)) rfl rfl ?_   -- t37
      refine Run.ev (Ev.len (by show some f.2.2.2 = some (.slice pf f.2.2.1.length cf); rw [hfvv]) Tryz.underlying48) rfl rfl ?_   -- t38
      refine Run.ev (Ev.move rfl) rfl rfl ?_   -- t39
      refine Run.nil ?_
      refine At.then ?_
      refine W.block ?_
      refine W.loop (fun (j : Nat) => [(3, .map (some a12)), (31, .pointer (some ⟨a31, 0, none⟩)), (37, .slice pf f.2.2.1.length cf), (38, natv f.2.2.1.length), (39, natv j)])
        (fun j w' => j ≤ f.2.2.1.length ∧ Kt No w w' ∧ UsedM w' a12 (U ++ f.2.2.1.take j) ∧ IterR str w' a31 t.mb (filesV l1)) (fun j => f.2.2.1.length - j) 0 ⟨Nat.zero_le _, kt, by simpa using hu, hit1⟩ (Env.sub_cons rfl (Env.sub_cons rfl (Env.sub_cons (by show some f.2.2.2 = _; rw [hfvv]) (Env.sub_cons rfl (Env.sub_cons rfl (Env.sub_nil _)))))) ?_
      clear hu hit1 kt hfv
      rintro j w2 ⟨hj, kt, hu, hit1⟩
      have hfv := (h.q.hf.2 f hfs).kt0 kt
      rw [hfvv] at hfv
      have hu8 := hu.lt
      have hi8 := hit1.lt
      refine W.seq ?_
      -- region 11 (store.go:121)
      refine W.region ?_
      refine Run.ev (Ev.lss rfl rfl rfl) rfl rfl ?_   -- t40
      refine Run.nil ?_
      refine At.then ?_
      refine W.seq ?_
      refine W.cond rfl (fun hc40 => ?_) (fun hc40 => ?_)
      · replace hc40 := of_decide_eq_true hc40
        obtain ⟨c, hc⟩ : ∃ c, f.2.2.1[j]? = some c := ⟨_, List.getElem?_eq_getElem (by omega)⟩
        obtain ⟨bd, od, rfl⟩ := hfv.ptr (by omega)
        have hcell := hfv.cell1 (j := j) (u := natv c) (by simp [hc]) (m := od + ((j : Nat) : Int).toNat * 1) (by omega)
        obtain ⟨m, hm, hmm⟩ := hu
        refine W.skip ?_
        refine At.then ?_
        refine W.seq ?_
        refine W.block ?_
        refine W.seq ?_
        -- region 12 (store.go:121)
        refine W.region ?_
        refine Run.ev (Ev.indexAddr Tryz.underlying48 es_3 rfl rfl (by omega) rfl) rfl rfl ?_   -- t41
        refine Run.ev (Ev.load sc_3 rfl hcell) rfl rfl ?_   -- t42
        refine Run.ev (Ev.assign rfl) rfl rfl ?_   -- t9
        refine Run.nil ?_
        refine At.then ?_
        -- region 13 (store.go:122)
        refine W.region ?_
        refine Run.ev (Ev.move rfl) rfl rfl ?_   -- t43
        refine Run.ev (Ev.move rfl) rfl rfl ?_   -- t44
        refine Run.step rfl (Stp.mapUpdate (m := m) (k := ((c : Nat) : Int)) (keyInt .i64) Tryz.underlying86 Tryz.underlying3 rfl rfl rfl hm ?_)   -- tNone
        intro wU kU bU zU
        have hu2 := UsedM.put bU hmm
        rw [List.append_assoc, ← take_snoc hc] at hu2
        refine Run.nil ?_
        refine At.block ?_
        refine At.then ?_
        -- region 14 (store.go:121)
        refine W.region ?_
        refine Run.ev (Ev.add rfl rfl (by omega)) rfl rfl ?_   -- t45
        refine Run.ev (Ev.move rfl) rfl rfl ?_   -- t39
        refine Run.nil ?_
        exact At.round (j + 1) (Env.sub_cons rfl (Env.sub_cons rfl (Env.sub_cons rfl (Env.sub_cons rfl (Env.sub_cons rfl (Env.sub_nil _)))))) ⟨by omega, kt.new kU (by rintro i rfl; omega), hu2, hit1.kt kU (by omega) (by omega)⟩ (by omega)
      · replace hc40 := of_decide_eq_false hc40
        obtain rfl : j = f.2.2.1.length := by omega
        rw [List.take_length] at hu
        refine W.exit ?_
        refine At.then_exit ?_
        refine At.then_exit ?_
        refine At.block_here ?_
        refine At.block ?_
        refine At.round (l1, U ++ f.2.2.1) (Env.sub_cons rfl (Env.sub_cons rfl (Env.sub_nil _))) ⟨kt, hu, hit1, fun k => (mem_used hpl).trans (hU k), fun q hq => hin q (hpl.mem_iff.2 (List.mem_cons_of_mem _ hq))⟩ ?_
        show l1.length < l.length
        rw [hpl.length_eq]; simp

theorem Free_calls (b : Nat) (t : Sto) (w : World) (h : StoR b t w) : Calls P 13 [.pointer (some ⟨b, 0, none⟩)].toArray w (Ret fun v w' => v = natv (freeP t).length ∧ Kt No w w') := by
  refine enterW 6 Tryz.func13 rfl rfl rfl ?_
  refine W.seq ?_
  -- region 0 (store.go:135)
  refine W.region ?_
  refine Run.ev (Ev.assign rfl) rfl rfl ?_   -- t2
  refine Run.nil ?_
  refine At.then ?_
  refine W.seq ?_
  -- region 1 (store.go:135)
  refine W.region ?_
  refine Run.ev (Ev.move rfl) rfl rfl ?_   -- t3
  refine Run.step rfl (Stp.callr en_35 rfl (free_calls b t w h) rfl ?_)   -- t4
  rintro v4 w4 ⟨o4, k4, f4⟩
  obtain ⟨p4, c4, rfl, _, _⟩ := (Sl.of_own o4).len
  refine Run.ev (Ev.len rfl Tryz.underlying48) rfl rfl ?_   -- t5
  refine Run.ev (Ev.assign rfl) rfl rfl ?_   -- t2
  refine Run.nil ?_
  refine At.then ?_
  refine W.ret ?_
  exact At.ret1 rfl rfl rfl ⟨rfl, k4⟩

end Go.Proofs.YtlcgeepjekcfgaaGreat
