/- The law of a store and its pit. -/
import Derived.Test.YtlcgeepjekcfgaaGreatLj
namespace Go.Proofs.YtlcgeepjekcfgaaGreat
open Go.RowKit
set_option linter.unusedVariables false
set_option linter.unusedSimpArgs false

/-- What a store's pages are, behind what was committed. -/
structure Inv (t : Sto) (old : List PitF) (gen : Nat) : Prop where
  k1 : t.k ≤ 1
  p64 : all64 t.pages
  lay : Lay t.pages t.k t.g t.dl (forget t.fs)
  old : rowsF (forget t.fs) = old
  gen : t.g = gen
  oth : OthP (t.pages.getD (1 - t.k) []) t.g
section
variable {t t2 : Sto} {old nw : List PitF} {gen : Nat}
theorem Inv.bnd (h : Inv t old gen) : Bnd old := h.old ▸ h.lay.bnd
theorem Inv.so (h : Inv t old gen) : srt old := h.old ▸ h.lay.srt
theorem Inv.fs (h : Inv t old gen) : ∀ q ∈ t.fs, ∀ k ∈ q.2.2.1, k < 256 := fun q hq k hk =>
  (h.lay.rng k (List.mem_append_right _ (List.mem_flatMap.2 ⟨(q.1, (q.2.1, q.2.2.1)), List.mem_map.2 ⟨q, hq, rfl⟩, hk⟩))).2
theorem Inv.free (h : Inv t old gen) : (freeP t).length + (pusedP old []).1 = 254 := by
  rw [freeP_C, ← h.old]; exact h.lay.used []
theorem Inv.mount (h : Inv t old gen) (hg : gen < 255) : mountP t.pages = some (((t.g, t.dl.headD 0, (dirB (forget t.fs)).length), t.dl, forget t.fs), t.k) :=
  mount_lay h.lay h.k1 fun r hr => h.oth.lt (by rw [h.gen]; exact hg) hr
theorem Inv.change (h : Inv t old gen) (now : List (Bs × Bs)) : Inv { t with now := now } old gen := ⟨h.k1, h.p64, h.lay, h.old, h.gen, h.oth⟩
theorem Inv.abort (h : Inv t old gen) {now : List (Bs × Bs)} {mn : Nat} (hp : now.Perm (t.fs.map fun p => (p.1, p.2.1))) : Inv { t with now := now, mn := mn } old gen ∧ Sim now old := by
  refine ⟨⟨h.k1, h.p64, h.lay, h.old, h.gen, h.oth⟩, ?_⟩
  have e : (t.fs.map fun p => (p.1, p.2.1)) = old := by
    rw [← h.old]; unfold rowsF forget; rw [List.map_map]; rfl
  rw [e] at hp
  exact (sim_self h.so).of_perm hp
theorem lay_mount {pages : List Bs} {k g : Nat} {dl : List Nat} {F : Fs} {st : StP} {k2 : Nat} (h : Lay pages k g dl F) (hk : k ≤ 1) (h64 : all64 pages) (ho : OthP (pages.getD (1 - k) []) g) (hg : g < 255)
    (hm : mountP pages = some (st, k2)) (h1 : (t2.g, t2.d, t2.s) = st.1) (h2 : t2.k = k2) (h3 : t2.dl = st.2.1) (h4 : forget t2.fs = st.2.2) (h5 : t2.pages = pages) (h6 : t2.now.Perm (st.2.2.map fun p => (p.1, p.2.1))) : Inv t2 (rowsF F) g ∧ Sim t2.now (rowsF F) := by
  rw [mount_lay h hk fun r hr => ho.lt hg hr] at hm
  cases hm
  have hg2 : t2.g = g := congrArg (·.1) h1
  refine ⟨⟨by omega, h5 ▸ h64, ?_, by rw [h4], hg2, ?_⟩, (sim_self h.srt).of_perm h6⟩
  · rw [h5, h2, hg2, h3, h4]; exact h
  · rw [h5, h2, hg2]; exact ho
theorem Inv.remount {st : StP} {k2 : Nat} (h : Inv t old gen) (hg : gen < 255) (hm : mountP t.pages = some (st, k2)) (h1 : (t2.g, t2.d, t2.s) = st.1) (h2 : t2.k = k2) (h3 : t2.dl = st.2.1) (h4 : forget t2.fs = st.2.2) (h5 : t2.pages = t.pages) (h6 : t2.now.Perm (st.2.2.map fun p => (p.1, p.2.1))) : Inv t2 old gen ∧ Sim t2.now old := by
  have := lay_mount h.lay h.k1 h.p64 h.oth (by rw [h.gen]; exact hg) hm h1 h2 h3 h4 h5 h6
  rw [h.old, h.gen] at this
  exact this
theorem Inv.first {st : StP} {k2 : Nat} (hm : mountP formatP = some (st, k2)) (h1 : (t2.g, t2.d, t2.s) = st.1) (h2 : t2.k = k2) (h3 : t2.dl = st.2.1) (h4 : forget t2.fs = st.2.2) (h5 : t2.pages = formatP) (h6 : t2.now.Perm (st.2.2.map fun p => (p.1, p.2.1))) : Inv t2 [] 1 ∧ Sim t2.now [] :=
  lay_mount lay_first (by omega) format_64 oth_first (by omega) hm h1 h2 h3 h4 h5 h6
theorem first_some : ∃ st k2, mountP formatP = some (st, k2) := ⟨_, _, mount_lay lay_first (by omega) fun r hr => OthP.lt oth_first (by omega) hr⟩
end
/-- A commit, and what a crash leaves. -/
theorem commit_calls (sb pb n : Nat) (kv : Value) (kept : List TornP) (t : Sto) (p : Pit) (w : World) (hs : StoR sb t w) (hp : PitR pb p w) (hsim : Sim t.now p.nw) (hb : Bnd p.nw) (hI : Inv t p.old p.gen) (hg : p.gen < 254) (hkv : Sl w 25 2 kv kept.length (kept.flatMap tornV)) (hkk : ∀ t ∈ kept, tornOK t) : Calls P 7 [.pointer (some ⟨pb, 0, none⟩), .pointer (some ⟨sb, 0, none⟩), natv n, kv].toArray w
    (Ret fun v w' => v = .bool true ∧ ∃ t' p', StoR sb t' w' ∧ PitR pb p' w' ∧ Sim t'.now p'.nw ∧ Bnd p'.nw ∧ Inv t' p'.old p'.gen ∧ p'.gen ≤ p.gen + 1 ∧ t'.mn = t.mn ∧ t'.pb = t.pb ∧ Kt (fun i => i = sb ∨ i = t.pb ∨ i = pb) w w') := by
  have hbn := hsim.bnd hb
  have hfree := hI.free
  have hgg := hI.gen
  by_cases hfull : (254 : Int) - ((pusedP p.old []).1 : Int) < ((pusedP p.nw p.old).2 : Int)
  · have hc : comP t.g (1 - t.k) t.now (forget t.fs) (freeP t) = none := by
      rw [freeP_C]
      exact commit_none hI.lay (by omega) hsim (by rw [hI.old]; exact hfull)
    refine Calls.mono (commitF_calls sb pb n kv t p w hs hp hb hI.bnd hbn.1 hbn.2 hI.k1 (by omega) hI.fs hI.p64.1 (by omega) hfull hc (by omega) hI.gen) ?_
    intro e w' h
    cases e with
    | returned v =>
      obtain ⟨h1, h2, h3, h4⟩ := h
      exact ⟨h1, t, p, h2, h3, hsim, hb, hI, by omega, rfl, rfl, h4.mono fun _ _ h => h.elim⟩
    | panicked c => exact h
    | outgrown => exact h
  · obtain ⟨c, hc, hu, hfr, hel, hok, hfs, hlay, h64, hoth, hcr⟩ := commit_some hI.lay hI.p64 hI.k1 hI.oth (by omega) hsim hb (by rw [hI.old]; exact hfull)
    rw [hI.old] at hu hfr hel hcr
    rw [← freeP_C] at hc
    have hm : n % (c.ev.length + 1) ≤ c.ev.length := by have := Nat.mod_lt n (y := c.ev.length + 1) (by omega); omega
    have hres : ∀ (nfs : List (Bs × FV)) (mb : Nat) (dv evv : Value), forget nfs = c.fs → Inv (t.com c nfs mb dv evv) p.nw (p.gen + 1) := by
      intro nfs mb dv evv hf
      refine ⟨by show 1 - t.k ≤ 1; omega, h64, ?_, by show rowsF (forget nfs) = _; rw [hf]; exact hfs, by show t.g + 1 = _; omega, ?_⟩
      · show Lay (applyP t.pages c.ev) (1 - t.k) (t.g + 1) c.dl (forget nfs)
        rw [hf]; exact hlay
      · show OthP ((applyP t.pages c.ev).getD (1 - (1 - t.k)) []) (t.g + 1)
        have := hI.k1
        rw [show 1 - (1 - t.k) = t.k from by omega]; exact hoth
    have hl12 : c.ev = c.ev.take (n % (c.ev.length + 1)) ++ c.ev.drop (n % (c.ev.length + 1)) := (List.take_append_drop _ _).symm
    have hll : (c.ev.take (n % (c.ev.length + 1))).length = n % (c.ev.length + 1) := by rw [List.length_take]; omega
    obtain ⟨hc64, st, k, hmt, hsn, hcase⟩ := hcr kept (n % (c.ev.length + 1)) hkk hm
    rcases hcase with ⟨hlt, hst, hho⟩ | ⟨hlt, hst, hho⟩
    · refine Calls.mono (commitO_calls sb pb n kv kept c _ _ st k t p w hs hp hb hI.bnd hbn.1 hbn.2 hI.k1 (by omega) hI.fs hI.p64 (by omega) (by omega) hu hc hfr hI.gen hel hl12 hll.symm (by rw [← hl12]; exact hok) hkv hkk hc64 hmt (by omega) hho hsn (by omega)) ?_
      intro e w' h
      cases e with
      | returned v =>
        obtain ⟨h1, nfs, mb, dv, evv, h2, h3, h4, h5⟩ := h
        exact ⟨h1, _, _, h3, h4, hsim, hb, hres nfs mb dv evv h2, Nat.le_refl _, rfl, rfl, h5⟩
      | panicked c => exact h
      | outgrown => exact h
    · refine Calls.mono (commitN_calls sb pb n kv kept c _ _ st k t p w hs hp hb hI.bnd hbn.1 hbn.2 hI.k1 (by omega) hI.fs hI.p64 (by omega) (by omega) hu hc hfr hI.gen hel hl12 hll.symm (by rw [← hl12]; exact hok) hkv hkk hc64 hmt (by omega) hho hsn (by omega)) ?_
      intro e w' h
      cases e with
      | returned v =>
        obtain ⟨h1, nfs, mb, dv, evv, h2, h3, h4, h5⟩ := h
        exact ⟨h1, _, _, h3, h4, hsim, hb, hres nfs mb dv evv h2, Nat.le_refl _, rfl, rfl, h5⟩
      | panicked c => exact h
      | outgrown => exact h
end Go.Proofs.YtlcgeepjekcfgaaGreat
