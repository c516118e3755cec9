/- The plain law, j: commits, crashes and mounts. -/
import Derived.Test.YtlcgeepjekcfgaaGreatLi
namespace Go.Proofs.YtlcgeepjekcfgaaGreat
open Go.RowKit
set_option linter.unusedVariables false
set_option linter.unusedSimpArgs false

/-- The rows of files. -/
def rowsF (F : Fs) : List PitF := F.map fun q => (q.1, q.2.1)
theorem Lay.srt {pages : List Bs} {k g : Nat} {dl : List Nat} {F : Fs} (h : Lay pages k g dl F) : srt (rowsF F) := by
  show List.Pairwise _ _
  unfold rowsF
  rw [List.pairwise_map]
  exact h.so
theorem Lay.bnd {pages : List Bs} {k g : Nat} {dl : List Nat} {F : Fs} (h : Lay pages k g dl F) : Bnd (rowsF F) := by
  refine ⟨by unfold rowsF; rw [List.length_map]; exact h.len, fun q hq => ?_⟩
  obtain ⟨x, hx, rfl⟩ := List.mem_map.1 hq
  have := h.nm x hx
  exact ⟨(name_len this.1).2, this.2, this.1⟩
theorem Lay.used {pages : List Bs} {k g : Nat} {dl : List Nat} {F : Fs} (h : Lay pages k g dl F) (old : List PitF) : (freeC dl F).length + (pusedP (rowsF F) old).1 = 254 := by
  have h1 := free_len (U := dl ++ pgsF F) h.nd h.rng
  have h2 : dl.length = dirP (rowsF F) := by
    rw [h.dir.len, pieces_len _ _ (Nat.le_refl _), ent_sum]
    unfold dirP rowsF
    rw [List.map_map]
    rfl
  have h3 : ∀ G : Fs, (∀ q ∈ G, Ch pages q.2.2 (piecesP q.2.1)) → (pgsF G).length = pagesP (rowsF G) := by
    intro G
    induction G with
    | nil => intro _; rfl
    | cons x r ih =>
      intro hG
      have e := (hG x List.mem_cons_self).len
      rw [pieces_len _ _ (Nat.le_refl _)] at e
      have ih := ih fun q hq => hG q (List.mem_cons_of_mem _ hq)
      have e1 : pgsF (x :: r) = x.2.2 ++ pgsF r := by unfold pgsF; rw [List.flatMap_cons]
      have e2 : pagesP (rowsF (x :: r)) = chP x.2.1.length + pagesP (rowsF r) := by
        unfold pagesP rowsF
        rw [List.map_cons, List.map_cons, List.sum_cons]
      rw [e1, e2, List.length_append, e, ih]
  have h4 := h3 F h.files
  have h5 := pused_fst (rowsF F) old
  rw [List.length_append] at h1
  show (freeTo (dl ++ pgsF F) 256).length + _ = _
  omega
theorem Lay.keys {pages : List Bs} {k g : Nat} {dl : List Nat} {F : Fs} (h : Lay pages k g dl F) : (F.map (·.1)).Nodup := by
  have := srt_nodup h.srt
  unfold rowsF at this
  rw [List.map_map] at this
  exact this
theorem oldP_iff {F : Fs} (hn : (F.map (·.1)).Nodup) (n d : Bs) : (oldP F n d).isSome = decide ((n, d) ∈ rowsF F) := by
  by_cases h : (n, d) ∈ rowsF F
  · rw [decide_eq_true h]
    obtain ⟨q, hq, e⟩ := List.mem_map.1 h
    cases e
    have := (mget_mem hn q.1 q.2).2 hq
    unfold oldP
    rw [this]
    simp
  · rw [decide_eq_false h]
    cases ho : oldP F n d with
    | none => rfl
    | some l => exact absurd (List.mem_map.2 ⟨_, oldP_mem ho, rfl⟩) h
theorem state_root {pages : List Bs} {k : Nat} {st : StP} (h : stateP pages k = some st) : rootOfP (pages.getD k []) = some st.1 := by
  unfold stateP at h
  cases hr : rootOfP (pages.getD k []) with
  | none => rw [hr] at h; cases h
  | some r =>
    rw [hr] at h
    simp only at h
    split at h
    · cases h
    · split at h
      · cases h
      · split at h
        · cases h; rfl
        · cases h
theorem mount_lay {pages : List Bs} {k g : Nat} {dl : List Nat} {F : Fs} (h : Lay pages k g dl F) (hk : k ≤ 1) (ho : ∀ r, rootOfP (pages.getD (1 - k) []) = some r → r.1 < g) : mountP pages = some (((g, dl.headD 0, (dirB F).length), dl, F), k) := by
  have hs := h.state
  have hk2 : k = 0 ∨ k = 1 := by omega
  unfold mountP
  rw [mountTo, mountTo, mountTo]
  rcases hk2 with rfl | rfl
  · unfold bestP
    rw [hs]
    simp only
    cases h1 : stateP pages 1 with
    | none => rfl
    | some st =>
      have := ho _ (state_root h1)
      simp only
      rw [if_neg (by omega)]
  · unfold bestP
    rw [hs]
    simp only
    cases h1 : stateP pages 0 with
    | none => rfl
    | some st =>
      have := ho _ (state_root h1)
      simp only
      rw [if_pos this]
theorem sim_self {l : List PitF} (h : srt l) : Sim l l := ⟨srt_nodup h, h, fun _ => rfl⟩
theorem Lay.holds {pages : List Bs} {k g : Nat} {dl : List Nat} {F : Fs} (h : Lay pages k g dl F) (now : List (Bs × Bs)) (hp : now.Perm (F.map fun q => (q.1, q.2.1))) : holds now (rowsF F) :=
  ((sim_self h.srt).of_perm hp).holds
theorem Lay.oth {pages : List Bs} {k g : Nat} {dl : List Nat} {F : Fs} (h : Lay pages k g dl F) : OthP (pages.getD k []) (g + 1) := by
  right
  have := h.g1
  refine ⟨by omega, dl.headD 0, (dirB F).length, h.dhead, by have := h.dlen; omega, ?_⟩
  rw [h.root]
  rfl
/-- The first store. -/
theorem lay_first : Lay formatP 0 1 [] [] := by
  refine ⟨?_, by rw [show dirB [] = [] from rfl, piecesP]; exact trivial, by simp, by simp [pgsF], by simp [pgsF], List.Pairwise.nil, by simp, by simp, by omega⟩
  unfold formatP
  exact getD_set_eq (by rw [List.length_replicate]; omega)
theorem oth_first : OthP (formatP.getD 1 []) 1 := by
  left
  unfold formatP
  rw [getD_set_ne (by omega), List.getD_eq_getElem?_getD, List.getElem?_replicate, if_pos (by omega)]
  rfl
theorem format_64 : all64 formatP := by
  refine ⟨by unfold formatP; rw [List.length_set, List.length_replicate], fun s hs => ?_⟩
  unfold formatP at hs
  rcases List.mem_or_eq_of_mem_set hs with hs | rfl
  · rw [List.eq_of_mem_replicate hs]; simp [padP]
  · exact rootP_len _ _ _
section
variable {pages : List Bs} {k g : Nat} {dl : List Nat} {F : Fs} {now : List (Bs × Bs)} {nw : List PitF}
theorem commit_none (hL : Lay pages k g dl F) (hg : g < 254) (hsim : Sim now nw) (hfull : (254 : Int) - ((pusedP (rowsF F) []).1 : Int) < ((pusedP nw (rowsF F)).2 : Int)) : comP g (1 - k) now F (freeC dl F) = none := by
  have h := comP_len (g := g) (k := 1 - k) (now := now) (fs := F) (free := freeC dl F) (l := nw) (old := rowsF F) (by omega) hsim.holds fun q hq => oldP_iff hL.keys q.1 q.2
  have h1 := hL.used []
  rw [pused_snd hsim.so hL.srt] at hfull
  cases hc : comP g (1 - k) now F (freeC dl F) with
  | none => rfl
  | some c => rw [hc] at h; simp only at h; omega
/-- What a crash behind a commit's first events leaves. -/
def CrOK (pages : List Bs) (c : Com) (kept : List TornP) (old nw : List PitF) (g n : Nat) : Prop :=
  all64 (crashP pages (c.ev.take n) kept) ∧ ∃ st k, mountP (crashP pages (c.ev.take n) kept) = some (st, k) ∧ (∀ q ∈ st.2.2, q.1.length ≤ 1000000) ∧
    ((n < c.ev.length ∧ st.1.1 = g ∧ ∀ now : List (Bs × Bs), now.Perm (st.2.2.map fun q => (q.1, q.2.1)) → holds now old) ∨ (¬ n < c.ev.length - 1 ∧ st.1.1 = g + 1 ∧ ∀ now : List (Bs × Bs), now.Perm (st.2.2.map fun q => (q.1, q.2.1)) → holds now nw))
theorem commit_some (hL : Lay pages k g dl F) (h64 : all64 pages) (hk : k ≤ 1) (hO : OthP (pages.getD (1 - k) []) g) (hg : g < 254) (hsim : Sim now nw) (hb : Bnd nw) (hfull : ¬ (254 : Int) - ((pusedP (rowsF F) []).1 : Int) < ((pusedP nw (rowsF F)).2 : Int)) :
    ∃ c, comP g (1 - k) now F (freeC dl F) = some c ∧ (pusedP nw (rowsF F)).1 ≤ 254 ∧ (freeC c.dl c.fs).length = 254 - (pusedP nw (rowsF F)).1 ∧ c.ev.length = (pusedP nw (rowsF F)).2 + 3 ∧ (∀ e ∈ c.ev, evOK e) ∧
      rowsF c.fs = nw ∧ Lay (applyP pages c.ev) (1 - k) (g + 1) c.dl c.fs ∧ all64 (applyP pages c.ev) ∧ OthP ((applyP pages c.ev).getD k []) (g + 1) ∧
      ∀ (kept : List TornP) (n : Nat), (∀ t ∈ kept, tornOK t) → n ≤ c.ev.length → CrOK pages c kept (rowsF F) nw g n := by
  have h := comP_len (g := g) (k := 1 - k) (now := now) (fs := F) (free := freeC dl F) (l := nw) (old := rowsF F) (by omega) hsim.holds fun q hq => oldP_iff hL.keys q.1 q.2
  have h1 := hL.used []
  rw [pused_snd hsim.so hL.srt] at hfull
  cases hc : comP g (1 - k) now F (freeC dl F) with
  | none => rw [hc] at h; simp only at h; omega
  | some c =>
    rw [hc] at h
    simp only at h
    obtain ⟨ch, hev, hfs, hch, hchn, hdlen, hN⟩ := com_law hL h64.1 hk hsim.holds hsim.so hb hc
    have hfs : rowsF c.fs = nw := hfs
    have happ : applyP pages c.ev = (applyP pages ch).set (1 - k) (rootP (g + 1) (c.dl.headD 0) c.dlen) := by rw [hev]; exact apply_ev
    have hu := hN.used (rowsF F)
    rw [hfs] at hu
    have hch0 : ∀ e ∈ ch, 0 ≤ e.1 := fun e he => by obtain ⟨_, j, _, e2⟩ := hch e he; omega
    have hnot : ∀ j : Nat, (j < 2 ∨ j ∈ dl ++ pgsF F) → ∀ e ∈ ch, e.1 ≠ (j : Int) := by
      intro j hj e he hej
      obtain ⟨_, i, hi, e2⟩ := hch e he
      have e3 : i = j := by omega
      subst e3
      have h3 := freeTo_mem.1 hi
      rcases hj with hj | hj
      · omega
      · exact h3.2.2 hj
    have hevok : ∀ e ∈ c.ev, evOK e := by
      intro e he
      rw [hev] at he
      have hsafe : evOK ((-1 : Int), ([] : Bs)) := ⟨by show (-1 : Int) ≤ -1; omega, by show (-1 : Int) < 256; omega, fun h => absurd h (by show ¬ (0 : Int) ≤ -1; omega)⟩
      rcases List.mem_append.1 he with he | he
      · rcases List.mem_append.1 he with he | he
        · rcases List.mem_append.1 he with he | he
          · obtain ⟨h3, i, hi, e2⟩ := hch e he
            have := freeTo_mem.1 hi
            exact ⟨by omega, by omega, fun _ => h3⟩
          · rw [List.mem_singleton] at he; subst he; exact hsafe
        · rw [List.mem_singleton] at he; subst he
          exact ⟨by show (-1 : Int) ≤ ((1 - k : Nat) : Int); omega, by show ((1 - k : Nat) : Int) < 256; omega, fun _ => rootP_len _ _ _⟩
      · rw [List.mem_singleton] at he; subst he; exact hsafe
    have hchev : ∀ e ∈ ch, evOK e := fun e he => hevok e (by rw [hev]; exact List.mem_append_left _ (List.mem_append_left _ (List.mem_append_left _ he)))
    have hrl := rootP_len (g + 1) (c.dl.headD 0) c.dlen
    have hp1 : ∀ j : Nat, (j < 2 ∨ j ∈ dl ++ pgsF F) → (applyP pages ch).getD j [] = pages.getD j [] := fun j hj => applyP_at ch pages (hnot j hj)
    have hkk : (1 - k) ≠ k := by omega
    have hLold : ∀ X : Bs, Lay ((applyP pages ch).set (1 - k) X) k g dl F := by
      intro X
      refine hL.frame ?_ fun j hj => ?_
      · rw [getD_set_ne hkk]; exact hp1 k (.inl (by omega))
      · rw [getD_set_ne (by have := hL.rng j hj; omega)]; exact hp1 j (.inr hj)
    have h64c : all64 (applyP pages ch) := by
      have h3 := crashS_64 ch (pages, []) h64 (fun p hp => by cases hp) hchev
      rw [show ch.foldl crashStep (pages, []) = (pages, ch) from by simpa using crash_run pages ch [] hch0 (by simpa using hchn)] at h3
      have h4 := flush_64 h3.1 h3.2
      rw [flush_apply ch pages hch0] at h4
      exact h4
    refine ⟨c, rfl, by omega, by omega, ?_, hevok, hfs, by rw [happ]; exact hN, by rw [happ]; exact h64c.set hrl, ?_, ?_⟩
    · rw [h.2, pused_snd hsim.so hL.srt]
    · rw [happ]
      exact (hLold _).oth
    · intro kept n ht hn
      have hlen : c.ev.length = ch.length + 3 := by rw [hev]; simp
      refine ⟨crash_64 h64 (fun e he => hevok e (List.mem_of_mem_take he)) ht, ?_⟩
      have hcc := crash_cases (pages := pages) (ch := ch) (root := rootP (g + 1) (c.dl.headD 0) c.dlen) (k := 1 - k) (n := n) (kept := kept) hch0 hchn hrl (by rw [h64.1]; omega) ht (by omega)
      rw [← hev] at hcc
      have hnold : ∀ (pg : List Bs) (dl' : List Nat) (F' : Fs) (k' g' : Nat), Lay pg k' g' dl' F' → ∀ q ∈ F', q.1.length ≤ 1000000 := fun pg dl' F' k' g' hh q hq => by
        have := name_len (hh.nm q hq).1; omega
      have hnew : mountP ((applyP pages ch).set (1 - k) (rootP (g + 1) (c.dl.headD 0) c.dlen)) = some (((g + 1, c.dl.headD 0, (dirB c.fs).length), c.dl, c.fs), 1 - k) := by
        refine mount_lay hN (by omega) fun r hr => ?_
        rw [show 1 - (1 - k) = k from by omega] at hr
        exact (hLold _).oth.lt (by omega) hr
      rcases hcc with ⟨h2, h3⟩ | ⟨h2, m, hm, h3⟩ | ⟨h2, h3⟩
      · have hL2 : Lay (crashP pages (c.ev.take n) kept) k g dl F := hL.frame (h3 k (hnot k (.inl (by omega)))) fun j hj => h3 j (hnot j (.inr hj))
        refine ⟨_, _, mount_lay hL2 hk fun r hr => ?_, hnold _ _ _ _ _ hL, .inl ⟨by omega, rfl, fun now' hp => hL.holds now' hp⟩⟩
        rw [h3 (1 - k) (hnot _ (.inl (by omega)))] at hr
        exact hO.lt (by omega) hr
      · rw [h3, hp1 (1 - k) (.inl (by omega))]
        have hdl := hN.dlen
        rcases torn_law (g := g) (d := c.dl.headD 0) (s := c.dlen) (m := m) hO hL.g1.1 (by omega) hN.dhead (by omega) hm with hmix | hmix
        · rw [hmix, hnew]
          exact ⟨_, _, rfl, hnold _ _ _ _ _ hN, .inr ⟨by omega, rfl, fun now' hp => by rw [← hfs]; exact hN.holds now' hp⟩⟩
        · refine ⟨_, _, mount_lay (hLold _) hk fun r hr => ?_, hnold _ _ _ _ _ hL, .inl ⟨by omega, rfl, fun now' hp => hL.holds now' hp⟩⟩
          rw [getD_set_eq (by rw [applyP_len, h64.1]; omega)] at hr
          exact hmix r hr
      · rw [h3, hnew]
        exact ⟨_, _, rfl, hnold _ _ _ _ _ hN, .inr ⟨by omega, rfl, fun now' hp => by rw [← hfs]; exact hN.holds now' hp⟩⟩
end
end Go.Proofs.YtlcgeepjekcfgaaGreat
