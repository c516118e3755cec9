/- The plain law, g: what a commit writes. -/
import Derived.Test.YtlcgeepjekcfgaaGreatLf
namespace Go.Proofs.YtlcgeepjekcfgaaGreat
open Go.RowKit
set_option linter.unusedVariables false
set_option linter.unusedSimpArgs false

theorem getD_set_eq {l : List Bs} {i : Nat} {a : Bs} (h : i < l.length) : (l.set i a).getD i [] = a := by
  rw [List.getD_eq_getElem?_getD, List.getElem?_set_self h]; rfl
theorem getD_set_ne {l : List Bs} {i j : Nat} {a : Bs} (h : i ≠ j) : (l.set i a).getD j [] = l.getD j [] := by
  rw [List.getD_eq_getElem?_getD, List.getElem?_set_ne h, List.getD_eq_getElem?_getD]
theorem applyP_cons (pages : List Bs) (e : EvP) (r : List EvP) : applyP pages (e :: r) = applyP (if 0 ≤ e.1 then pages.set e.1.toNat e.2 else pages) r := rfl
theorem applyP_append (pages : List Bs) (a b : List EvP) : applyP pages (a ++ b) = applyP (applyP pages a) b := by unfold applyP; rw [List.foldl_append]
theorem applyP_at {j : Nat} : ∀ (evs : List EvP) (pages : List Bs), (∀ e ∈ evs, e.1 ≠ (j : Int)) → (applyP pages evs).getD j [] = pages.getD j []
  | [], _, _ => rfl
  | e :: r, pages, h => by
    rw [applyP_cons, applyP_at r _ fun e he => h e (List.mem_cons_of_mem _ he)]
    have h1 := h e List.mem_cons_self
    split
    · exact getD_set_ne (by omega)
    · rfl
theorem links_keys : ∀ {ks : List Nat} {ps : List Bs}, ks.length = ps.length → (linksP ks ps).map (·.1) = ks.map (fun (k : Nat) => (k : Int))
  | [], [], _ => rfl
  | k :: ks, p :: ps, h => by rw [linksP, List.map_cons, List.map_cons, links_keys (by simpa using h)]
theorem links_64 : ∀ {ks : List Nat} {ps : List Bs}, (∀ p ∈ ps, p.length ≤ 57) → ∀ e ∈ linksP ks ps, e.2.length = 64
  | k :: ks, p :: ps, h, e, he => by
    rw [linksP] at he
    rcases List.mem_cons.1 he with rfl | he
    · exact linkP_len (h p List.mem_cons_self)
    · exact links_64 (fun p hp => h p (List.mem_cons_of_mem _ hp)) e he
  | [], _, _, e, he => by rw [linksP] at he <;> simp_all
  | _ :: _, [], _, e, he => by rw [linksP] at he <;> simp_all
theorem links_apply : ∀ {ks : List Nat} {ps : List Bs} {pg : List Bs}, ks.length = ps.length → ks.Nodup → (∀ k ∈ ks, k < pg.length) → Ch (applyP pg (linksP ks ps)) ks ps
  | [], [], _, _, _, _ => trivial
  | k :: ks, p :: ps, pg, hl, hn, hk => by
    have hl' : ks.length = ps.length := by simpa using hl
    have hn' := List.nodup_cons.1 hn
    have hk0 := hk k List.mem_cons_self
    rw [linksP, applyP_cons, if_pos (by omega)]
    refine ⟨?_, links_apply hl' hn'.2 fun j hj => by rw [List.length_set]; exact hk j (List.mem_cons_of_mem _ hj)⟩
    rw [applyP_at _ _ fun e he hek => ?_]
    · show (pg.set ((k : Int)).toNat _).getD k [] = _
      rw [Int.toNat_natCast, getD_set_eq hk0]
    · have : e.1 ∈ (linksP ks ps).map (·.1) := List.mem_map.2 ⟨e, he, rfl⟩
      rw [links_keys hl', hek] at this
      obtain ⟨j, hj, e2⟩ := List.mem_map.1 this
      have e3 : j = k := by omega
      subst e3
      exact hn'.1 hj
theorem chainW_spec {free pages free' : List Nat} {data : Bs} {evs : List EvP} (h : chainW free data = some (pages, free', evs)) : free = pages ++ free' ∧ evs = linksP pages (piecesP data) ∧ pages.length = (piecesP data).length := by
  unfold chainW at h
  split at h
  · cases h
  · cases h
    exact ⟨(List.take_append_drop _ _).symm, rfl, by rw [List.length_take]; omega⟩
theorem flat_disj {F : Fs} (h : (pgsF F).Nodup) {q x : Bs × (Bs × List Nat)} (hq : q ∈ F) (hx : x ∈ F) (hne : q ≠ x) {k : Nat} (h1 : k ∈ q.2.2) (h2 : k ∈ x.2.2) : False := by
  unfold pgsF at h
  induction F with
  | nil => cases hq
  | cons a r ih =>
    rw [List.flatMap_cons, List.nodup_append] at h
    rcases List.mem_cons.1 hq with e1 | hq'
    · subst e1
      rcases List.mem_cons.1 hx with e2 | hx'
      · exact hne e2.symm
      · exact h.2.2 k h1 k (List.mem_flatMap.2 ⟨x, hx', h2⟩) rfl
    · rcases List.mem_cons.1 hx with e2 | hx'
      · subst e2
        exact h.2.2 k h2 k (List.mem_flatMap.2 ⟨q, hq', h1⟩) rfl
      · exact ih h.2.1 hq' hx'
theorem flat_nd {F : Fs} (h : (pgsF F).Nodup) {q : Bs × (Bs × List Nat)} (hq : q ∈ F) : q.2.2.Nodup := by
  unfold pgsF at h
  induction F with
  | nil => cases hq
  | cons a r ih =>
    rw [List.flatMap_cons, List.nodup_append] at h
    rcases List.mem_cons.1 hq with rfl | hq
    · exact h.1
    · exact ih h.2.1 hq
/-- What a commit starts from. -/
structure CH (pages0 : List Bs) (F : Fs) (free0 : List Nat) : Prop where
  len : pages0.length = 256
  fnd : free0.Nodup
  flt : ∀ k ∈ free0, 2 ≤ k ∧ k < 256
  fU : ∀ k ∈ free0, k ∉ pgsF F
  files : ∀ q ∈ F, Ch pages0 q.2.2 (piecesP q.2.1)
  nd : (pgsF F).Nodup
/-- What a commit has done. -/
structure CI (pages0 : List Bs) (F : Fs) (free0 : List Nat) (done : List PitF) (c : CSt) (taken : List Nat) : Prop where
  fr : free0 = taken ++ c.free
  ek : c.ev.map (·.1) = taken.map (fun (k : Nat) => (k : Int))
  e64 : ∀ e ∈ c.ev, e.2.length = 64
  fs : c.fs.map (fun q => (q.1, q.2.1)) = done
  dir : c.dirB = dirB c.fs
  src : ∀ q ∈ c.fs, q ∈ F ∨ ∀ k ∈ q.2.2, k ∈ taken
  ch : ∀ q ∈ c.fs, Ch (applyP pages0 c.ev) q.2.2 (piecesP q.2.1)
  nd : (pgsF c.fs).Nodup
section
variable {pages0 : List Bs} {F : Fs} {free0 taken : List Nat} {done : List PitF} {c : CSt} {name data : Bs}
theorem CI.ev_mem (h : CI pages0 F free0 done c taken) {e : EvP} (he : e ∈ c.ev) : ∃ k ∈ taken, e.1 = (k : Int) := by
  have : e.1 ∈ c.ev.map (·.1) := List.mem_map.2 ⟨e, he, rfl⟩
  rw [h.ek] at this
  obtain ⟨k, hk, e2⟩ := List.mem_map.1 this
  exact ⟨k, hk, e2.symm⟩
theorem CI.tk (h : CI pages0 F free0 done c taken) {k : Nat} (hk : k ∈ taken) : k ∈ free0 := by rw [h.fr]; exact List.mem_append_left _ hk
theorem CI.new (h : CI pages0 F free0 done c taken) (hn : name ∉ done.map (·.1)) (v : Bs × List Nat) : mset c.fs name v = c.fs ++ [(name, v)] :=
  mset_new (by rw [← h.fs, List.map_map] at hn; exact hn)
theorem pgsF_append (a b : Fs) : pgsF (a ++ b) = pgsF a ++ pgsF b := by unfold pgsF; rw [List.flatMap_append]
theorem dirB_append (a b : Fs) : dirB (a ++ b) = dirB a ++ dirB b := by unfold dirB; rw [List.flatMap_append]
theorem CI.add_old (H : CH pages0 F free0) (h : CI pages0 F free0 done c taken) (hn : name ∉ done.map (·.1)) {l : List Nat} (hm : (name, (data, l)) ∈ F) : CI pages0 F free0 (done ++ [(name, data)]) (c.add name data l) taken := by
  have hin : ∀ k ∈ l, k ∈ pgsF F := fun k hk => List.mem_flatMap.2 ⟨_, hm, hk⟩
  have e : (c.add name data l).fs = c.fs ++ [(name, (data, l))] := h.new hn _
  refine ⟨h.fr, h.ek, h.e64, ?_, ?_, ?_, ?_, ?_⟩
  · rw [e, List.map_append, h.fs]; rfl
  · rw [e, dirB_append]
    show c.dirB ++ entP name data l = _
    rw [h.dir]; simp [dirB]
  · intro q hq
    rw [e] at hq
    rcases List.mem_append.1 hq with hq | hq
    · exact h.src q hq
    · rw [List.mem_singleton] at hq; subst hq; exact .inl hm
  · intro q hq
    rw [e] at hq
    rcases List.mem_append.1 hq with hq | hq
    · exact h.ch q hq
    · rw [List.mem_singleton] at hq; subst hq
      refine (H.files _ hm).frame fun k hk => applyP_at _ _ fun e he hek => ?_
      obtain ⟨j, hj, e2⟩ := h.ev_mem he
      have : j = k := by omega
      subst this
      exact H.fU j (h.tk hj) (hin j hk)
  · rw [e, pgsF_append, List.nodup_append]
    refine ⟨h.nd, by simpa [pgsF] using flat_nd H.nd hm, fun k hk j hj ejk => ?_⟩
    subst ejk
    have hj : k ∈ l := by simpa [pgsF] using hj
    obtain ⟨q, hq, hkq⟩ := List.mem_flatMap.1 hk
    rcases h.src q hq with hF | hT
    · refine flat_disj H.nd hF hm (fun e => hn ?_) hkq hj
      rw [← h.fs, List.map_map]
      exact List.mem_map.2 ⟨q, hq, congrArg (·.1) e⟩
    · exact H.fU k (h.tk (hT k hkq)) (hin k hj)
theorem CI.add_new (H : CH pages0 F free0) (h : CI pages0 F free0 done c taken) (hn : name ∉ done.map (·.1)) {pages free : List Nat} {evs : List EvP} (hc : chainW c.free data = some (pages, free, evs)) : CI pages0 F free0 (done ++ [(name, data)]) ({ c with free := free, ev := c.ev ++ evs }.add name data pages) (taken ++ pages) := by
  obtain ⟨h1, h2, h3⟩ := chainW_spec hc
  have e : ({ c with free := free, ev := c.ev ++ evs }.add name data pages).fs = c.fs ++ [(name, (data, pages))] := h.new hn _
  have hfr : free0 = taken ++ pages ++ free := by rw [h.fr, h1, List.append_assoc]
  have hfn := H.fnd
  rw [hfr] at hfn
  have hfn2 := (List.nodup_append.1 hfn).1
  have hpn := (List.nodup_append.1 hfn2).2.1
  have hdis : ∀ k ∈ taken, k ∉ pages := fun k hk hk2 => (List.nodup_append.1 hfn2).2.2 k hk k hk2 rfl
  have hpf : ∀ k ∈ pages, k ∈ free0 := fun k hk => by rw [hfr]; exact List.mem_append_left _ (List.mem_append_right _ hk)
  have hek : evs.map (·.1) = pages.map (fun (k : Nat) => (k : Int)) := by rw [h2]; exact links_keys h3
  refine ⟨hfr, ?_, ?_, ?_, ?_, ?_, ?_, ?_⟩
  · show (c.ev ++ evs).map (·.1) = _
    rw [List.map_append, List.map_append, h.ek, hek]
  · intro x hx
    rcases List.mem_append.1 hx with hx | hx
    · exact h.e64 x hx
    · exact links_64 (piecesP_57 data) x (h2 ▸ hx)
  · rw [e, List.map_append, h.fs]; rfl
  · rw [e, dirB_append]
    show c.dirB ++ entP name data pages = _
    rw [h.dir]; simp [dirB]
  · intro q hq
    rw [e] at hq
    rcases List.mem_append.1 hq with hq | hq
    · exact (h.src q hq).imp id fun h k hk => List.mem_append_left _ (h k hk)
    · rw [List.mem_singleton] at hq; subst hq; exact .inr fun k hk => List.mem_append_right _ hk
  · intro q hq
    rw [e] at hq
    show Ch (applyP pages0 (c.ev ++ evs)) _ _
    rw [applyP_append]
    rcases List.mem_append.1 hq with hq | hq
    · refine (h.ch q hq).frame fun k hk => applyP_at _ _ fun x hx hxk => ?_
      have : x.1 ∈ evs.map (·.1) := List.mem_map.2 ⟨x, hx, rfl⟩
      rw [hek, hxk] at this
      obtain ⟨j, hj, e2⟩ := List.mem_map.1 this
      have e3 : j = k := by omega
      subst e3
      rcases h.src q hq with hF | hT
      · exact H.fU j (hpf j hj) (List.mem_flatMap.2 ⟨q, hF, hk⟩)
      · exact hdis j (hT j hk) hj
    · rw [List.mem_singleton] at hq; subst hq
      rw [h2]
      exact links_apply h3 hpn fun k hk => by rw [applyP_len, H.len]; exact (H.flt k (hpf k hk)).2
  · rw [e, pgsF_append, List.nodup_append]
    refine ⟨h.nd, by simpa [pgsF] using hpn, fun k hk j hj ejk => ?_⟩
    subst ejk
    have hj : k ∈ pages := by simpa [pgsF] using hj
    obtain ⟨q, hq, hkq⟩ := List.mem_flatMap.1 hk
    rcases h.src q hq with hF | hT
    · exact H.fU k (hpf k hj) (List.mem_flatMap.2 ⟨q, hF, hkq⟩)
    · exact hdis k (hT k hkq) hj
theorem oldP_mem {fs : Fs} {name data : Bs} {l : List Nat} (h : oldP fs name data = some l) : (name, (data, l)) ∈ fs := by
  unfold oldP at h
  cases hm : mget fs name with
  | none => rw [hm] at h; cases h
  | some f =>
    rw [hm] at h
    simp only at h
    split at h
    · rename_i hd
      cases h
      have := mget_in hm
      subst hd
      exact this
    · cases h
theorem CI.loop (H : CH pages0 F free0) {now : List (Bs × Bs)} : ∀ (l : List PitF) (done : List PitF) (c : CSt) (taken : List Nat) (c' : CSt), CI pages0 F free0 done c taken → (∀ q ∈ l, mget now q.1 = some q.2) → srt (done ++ l) → comLoop now F (l.map (·.1)) c = some c' → ∃ taken', CI pages0 F free0 (done ++ l) c' taken'
  | [], done, c, taken, c', h, _, _, hc => by
    rw [List.map_nil, comLoop] at hc
    cases hc
    rw [List.append_nil]
    exact ⟨taken, h⟩
  | x :: r, done, c, taken, c', h, hg, hs, hc => by
    have hx := hg x List.mem_cons_self
    have hg' : ∀ q ∈ r, mget now q.1 = some q.2 := fun q hq => hg q (List.mem_cons_of_mem _ hq)
    have hnx : x.1 ∉ done.map (·.1) := fun hm => by
      obtain ⟨y, hy, e⟩ := List.mem_map.1 hm
      exact bs_ne ((List.pairwise_append.1 hs).2.2 y hy x List.mem_cons_self) e
    have hs' : srt ((done ++ [x]) ++ r) := by rw [List.append_assoc]; exact hs
    have e : done ++ x :: r = (done ++ [x]) ++ r := by rw [List.append_assoc]; rfl
    rw [List.map_cons, comLoop, hx] at hc
    simp only [Option.getD_some] at hc
    rw [e]
    cases ho : oldP F x.1 x.2 with
    | some l0 =>
      rw [ho] at hc
      exact CI.loop H r _ _ taken c' (h.add_old H hnx (oldP_mem ho)) hg' hs' hc
    | none =>
      rw [ho] at hc
      simp only at hc
      cases hw : chainW c.free x.2 with
      | none => rw [hw] at hc; cases hc
      | some t =>
        obtain ⟨pages, free, evs⟩ := t
        rw [hw] at hc
        exact CI.loop H r _ _ _ c' (h.add_new H hnx hw) hg' hs' hc
end
theorem CI.zero {pages0 : List Bs} {F : Fs} {free0 : List Nat} : CI pages0 F free0 [] ⟨free0, [], [], []⟩ [] :=
  ⟨rfl, rfl, by simp, rfl, rfl, by simp, by simp, List.nodup_nil⟩
theorem Lay.start {pages : List Bs} {k g : Nat} {dl : List Nat} {F : Fs} (h : Lay pages k g dl F) (hl : pages.length = 256) : CH pages F (freeC dl F) :=
  ⟨hl, freeTo_nodup _ _, fun k hk => by have := freeTo_mem.1 hk; omega, fun k hk hk2 => (freeTo_mem.1 hk).2.2 (List.mem_append_right _ hk2), h.files, (List.nodup_append.1 h.nd).2.1⟩
/-- What a commit's events are, and what stands in the pages then. -/
theorem com_law {pages : List Bs} {k g : Nat} {dl : List Nat} {F : Fs} {now : List (Bs × Bs)} {l : List PitF} {c : Com} (hL : Lay pages k g dl F) (hlen : pages.length = 256) (hk : k ≤ 1) (hh : holds now l) (hs : srt l) (hb : Bnd l) (hc : comP g (1 - k) now F (freeC dl F) = some c) :
    ∃ ch : List EvP, c.ev = ((ch ++ [(-1, [])]) ++ [(((1 - k : Nat) : Int), rootP (g + 1) (c.dl.headD 0) c.dlen)]) ++ [(-1, [])] ∧ c.fs.map (fun q => (q.1, q.2.1)) = l ∧
      (∀ e ∈ ch, e.2.length = 64 ∧ ∃ j ∈ freeC dl F, e.1 = (j : Int)) ∧ (ch.map (·.1)).Nodup ∧ c.dlen = (dirB c.fs).length ∧
      Lay ((applyP pages ch).set (1 - k) (rootP (g + 1) (c.dl.headD 0) c.dlen)) (1 - k) (g + 1) c.dl c.fs := by
  have H := hL.start hlen
  unfold comP at hc
  split at hc
  · cases hc
  · rename_i hg
    rw [hh.1] at hc
    cases h1 : comLoop now F (l.map (·.1)) ⟨freeC dl F, [], [], []⟩ with
    | none => rw [h1] at hc; cases hc
    | some c1 =>
      rw [h1] at hc
      simp only at hc
      obtain ⟨taken, hI⟩ := CI.loop H l [] _ [] c1 CI.zero hh.2 hs h1
      rw [List.nil_append] at hI
      cases h2 : chainW c1.free c1.dirB with
      | none => rw [h2] at hc; cases hc
      | some t =>
        obtain ⟨dp, fr, evs⟩ := t
        rw [h2] at hc
        cases hc
        obtain ⟨e1, e2, e3⟩ := chainW_spec h2
        have hfr : freeC dl F = taken ++ dp ++ fr := by rw [hI.fr, e1, List.append_assoc]
        have hfn := H.fnd
        rw [hfr] at hfn
        have hfn2 := (List.nodup_append.1 hfn).1
        have hpn := (List.nodup_append.1 hfn2).2.1
        have hdis : ∀ k ∈ taken, k ∉ dp := fun k hk hk2 => (List.nodup_append.1 hfn2).2.2 k hk k hk2 rfl
        have hpf : ∀ k ∈ dp, k ∈ freeC dl F := fun k hk => by rw [hfr]; exact List.mem_append_left _ (List.mem_append_right _ hk)
        have hek : evs.map (·.1) = dp.map (fun (k : Nat) => (k : Int)) := by rw [e2]; exact links_keys e3
        have hekk : (c1.ev ++ evs).map (·.1) = (taken ++ dp).map (fun (k : Nat) => (k : Int)) := by rw [List.map_append, hI.ek, hek, List.map_append]
        have hsrc : ∀ q ∈ c1.fs, ∀ k ∈ q.2.2, (k ∈ pgsF F ∨ k ∈ taken) := fun q hq k hk => (hI.src q hq).elim (fun h => .inl (List.mem_flatMap.2 ⟨q, h, hk⟩)) fun h => .inr (h k hk)
        have hrng : ∀ j ∈ dp ++ pgsF c1.fs, 2 ≤ j ∧ j < 256 := by
          intro j hj
          rcases List.mem_append.1 hj with hj | hj
          · exact H.flt j (hpf j hj)
          · obtain ⟨q, hq, hjq⟩ := List.mem_flatMap.1 hj
            rcases hsrc q hq j hjq with h | h
            · exact hL.rng j (List.mem_append_right _ h)
            · exact H.flt j (hI.tk h)
        have hset : ∀ j ∈ dp ++ pgsF c1.fs, ((applyP pages (c1.ev ++ evs)).set (1 - k) (rootP (g + 1) (dp.headD 0) c1.dirB.length)).getD j [] = (applyP pages (c1.ev ++ evs)).getD j [] := fun j hj => getD_set_ne (by have := hrng j hj; omega)
        refine ⟨c1.ev ++ evs, rfl, hI.fs, ?_, ?_, by rw [hI.dir], ?_⟩
        · intro e he
          refine ⟨?_, ?_⟩
          · rcases List.mem_append.1 he with he | he
            · exact hI.e64 e he
            · exact links_64 (piecesP_57 _) e (e2 ▸ he)
          · have : e.1 ∈ (c1.ev ++ evs).map (·.1) := List.mem_map.2 ⟨e, he, rfl⟩
            rw [hekk] at this
            obtain ⟨j, hj, e4⟩ := List.mem_map.1 this
            exact ⟨j, by rw [hfr]; exact List.mem_append_left _ hj, e4.symm⟩
        · rw [hekk, List.Nodup, List.pairwise_map]
          exact hfn2.imp fun h e => h (by omega)
        · refine ⟨?_, ?_, ?_, ?_, hrng, ?_, ?_, ?_, ?_⟩
          · rw [getD_set_eq (by rw [applyP_len, hlen]; omega)]
            show rootP _ _ _ = _
            rw [hI.dir]
          · refine Ch.frame ?_ fun j hj => hset j (List.mem_append_left _ hj)
            show Ch _ dp _
            rw [applyP_append, e2, ← hI.dir]
            exact links_apply e3 hpn fun j hj => by rw [applyP_len, hlen]; exact (H.flt j (hpf j hj)).2
          · intro q hq
            have hq' : q ∈ c1.fs := hq
            refine Ch.frame (pages := applyP pages (c1.ev ++ evs)) ?_ fun j hj => hset j (List.mem_append_right _ (List.mem_flatMap.2 ⟨q, hq, hj⟩))
            rw [applyP_append]
            refine (hI.ch q hq').frame fun j hj => applyP_at _ _ fun x hx hxk => ?_
            have : x.1 ∈ evs.map (·.1) := List.mem_map.2 ⟨x, hx, rfl⟩
            rw [hek, hxk] at this
            obtain ⟨i, hi, e4⟩ := List.mem_map.1 this
            have e5 : i = j := by omega
            subst e5
            rcases hsrc q hq' i hj with h | h
            · exact H.fU i (hpf i hi) h
            · exact hdis i h hi
          · show (dp ++ pgsF c1.fs).Nodup
            rw [List.nodup_append]
            refine ⟨hpn, hI.nd, fun j hj i hi eji => ?_⟩
            subst eji
            obtain ⟨q, hq, hjq⟩ := List.mem_flatMap.1 hi
            rcases hsrc q hq j hjq with h | h
            · exact H.fU j (hpf j hj) h
            · exact hdis j h hj
          · have h3 := hs
            rw [← hI.fs] at h3
            unfold srt at h3
            rw [List.pairwise_map] at h3
            exact h3
          · intro q hq
            have : (q.1, q.2.1) ∈ l := by rw [← hI.fs]; exact List.mem_map.2 ⟨q, hq, rfl⟩
            have := hb.2 _ this
            exact ⟨this.2.2, this.2.1⟩
          · have h3 := congrArg List.length hI.fs
            rw [List.length_map] at h3
            show c1.fs.length ≤ 30
            rw [h3]; exact hb.1
          · have := hL.g1; omega
end Go.Proofs.YtlcgeepjekcfgaaGreat
