/- The plain law, f: chains and pages. -/
import Derived.Test.YtlcgeepjekcfgaaGreatLe
namespace Go.Proofs.YtlcgeepjekcfgaaGreat
open Go.RowKit
set_option linter.unusedVariables false
set_option linter.unusedSimpArgs false

theorem unbe_from (a : Nat) : ∀ l : Bs, l.foldl (fun n c => n * 256 + c.toNat) a = a * 256 ^ l.length + unbe l
  | [] => by simp [unbe]
  | c :: r => by
    have h1 := unbe_from (a * 256 + c.toNat) r
    have h2 := unbe_from (0 * 256 + c.toNat) r
    unfold unbe
    rw [List.foldl_cons, List.foldl_cons, h1, h2, List.length_cons, Nat.pow_succ, Nat.add_mul, Nat.mul_assoc, Nat.mul_comm 256]
    simp [Nat.add_assoc]
theorem unbe_cons (c : UInt8) (l : Bs) : unbe (c :: l) = c.toNat * 256 ^ l.length + unbe l := by
  have := unbe_from (0 * 256 + c.toNat) l
  unfold unbe
  rw [List.foldl_cons, this]
  simp [unbe]
theorem unbe_be (n : Nat) : ∀ k, unbe (be n k) = n % 256 ^ k
  | 0 => by simp [be, unbe, Nat.mod_one]
  | k + 1 => by
    rw [be, unbe_cons, be_length, unbe_be n k, Nat.pow_succ, Nat.mod_mul]
    have : (UInt8.ofNat (n / 256 ^ k)).toNat = n / 256 ^ k % 256 := by simp
    rw [this, Nat.mul_comm (256 ^ k)]
    omega
theorem len4 {l : Bs} (h : l.length = 4) : ∃ a b c d, l = [a, b, c, d] := by
  match l, h with
  | [a, b, c, d], _ => exact ⟨a, b, c, d, rfl⟩
theorem linkP_eq (next : Nat) (data : Bs) : ∃ s0 s1 s2 s3, linkP next data = be next 2 ++ UInt8.ofNat data.length :: s0 :: s1 :: s2 :: s3 :: (data ++ List.replicate (57 - data.length) 0) := by
  obtain ⟨a, b, c, d, h⟩ := len4 (sum4_length [be next 2 ++ be data.length 1, data])
  refine ⟨a, b, c, d, ?_⟩
  unfold linkP padP
  rw [h]
  have e : 64 - (be next 2 ++ be data.length 1 ++ [a, b, c, d] ++ data).length = 57 - data.length := by
    simp [be_length]; omega
  rw [e]
  simp [be]
theorem linkP_len {next : Nat} {data : Bs} (h : data.length ≤ 57) : (linkP next data).length = 64 := by
  obtain ⟨a, b, c, d, e⟩ := linkP_eq next data
  rw [e]
  simp [be_length]; omega
theorem linkP_next {next : Nat} {data : Bs} (h : next < 256) : nextP (linkP next data) = next := by
  obtain ⟨a, b, c, d, e⟩ := linkP_eq next data
  unfold nextP
  rw [e, List.take_left' (be_length _ _), unbe_be]
  omega
theorem linkP_size {next : Nat} {data : Bs} (h : data.length ≤ 57) : sizeP (linkP next data) = data.length := by
  obtain ⟨a, b, c, d, e⟩ := linkP_eq next data
  unfold sizeP
  rw [e]
  simp [be]; omega
theorem linkP_data {next : Nat} {data : Bs} (h : data.length ≤ 57) : dataP (linkP next data) = data := by
  unfold dataP
  rw [linkP_size h]
  obtain ⟨a, b, c, d, e⟩ := linkP_eq next data
  rw [e]
  simp [be]
theorem linkP_ok {next : Nat} {data : Bs} (h : next < 256) (h1 : 1 ≤ data.length) (h2 : data.length ≤ 57) (h3 : next = 0 ∨ data.length = 57) : pageOK (linkP next data) := by
  unfold pageOK
  rw [linkP_size h2, linkP_next h, linkP_data h2]
  exact ⟨⟨h1, h2⟩, h3, rfl⟩
/-- Parts that a chain can hold. -/
def okP : List Bs → Prop
  | [] => True
  | p :: ps => (1 ≤ p.length ∧ p.length ≤ 57) ∧ (ps = [] ∨ p.length = 57) ∧ okP ps
theorem pieces_ok : ∀ (k : Nat) (s : Bs), s.length ≤ k → okP (piecesP s) ∧ (piecesP s).flatten = s := by
  intro k
  induction k with
  | zero =>
    intro s h
    have : s = [] := List.eq_nil_of_length_eq_zero (by omega)
    subst this
    rw [piecesP]; exact ⟨trivial, rfl⟩
  | succ k ih =>
    intro s h
    rw [piecesP]
    split
    · rename_i h2
      have := ih (s.drop 57) (by rw [List.length_drop]; omega)
      have e : (s.take 57).length = 57 := by rw [List.length_take]; omega
      refine ⟨⟨by omega, .inr e, this.1⟩, ?_⟩
      rw [List.flatten_cons, this.2, List.take_append_drop]
    · split
      · rename_i h3; subst h3; exact ⟨trivial, rfl⟩
      · rename_i h2 h3
        have h4 : 0 < s.length := List.length_pos_iff.2 h3
        exact ⟨⟨by omega, .inl rfl, trivial⟩, by simp⟩
/-- A chain stands in pages. -/
def Ch (pages : List Bs) : List Nat → List Bs → Prop
  | [], [] => True
  | k :: ks, p :: ps => pages.getD k [] = linkP (ks.headD 0) p ∧ Ch pages ks ps
  | _, _ => False
theorem Ch.len {pages : List Bs} : ∀ {ks : List Nat} {ps : List Bs}, Ch pages ks ps → ks.length = ps.length
  | [], [], _ => rfl
  | k :: ks, p :: ps, h => by rw [List.length_cons, List.length_cons, Ch.len h.2]
  | [], _ :: _, h => h.elim
  | _ :: _, [], h => h.elim
theorem Ch.frame {pages pages' : List Bs} : ∀ {ks : List Nat} {ps : List Bs}, Ch pages ks ps → (∀ k ∈ ks, pages'.getD k [] = pages.getD k []) → Ch pages' ks ps
  | [], [], _, _ => trivial
  | k :: ks, p :: ps, h, hf => ⟨(hf k List.mem_cons_self).trans h.1, Ch.frame h.2 fun k hk => hf k (List.mem_cons_of_mem _ hk)⟩
  | [], _ :: _, h, _ => h.elim
  | _ :: _, [], h, _ => h.elim
theorem head_mem {ks : List Nat} (h : ks.headD 0 ≠ 0) : ks.headD 0 ∈ ks := by
  cases ks with
  | nil => exact absurd rfl h
  | cons k r => exact List.mem_cons_self
theorem chain_read {pages : List Bs} : ∀ (ks : List Nat) (ps : List Bs) (met : List Nat), Ch pages ks ps → okP ps → (∀ k ∈ ks, 2 ≤ k ∧ k < 256) → (met ++ ks).Nodup → chainP pages met (ks.headD 0) = some (ks.zip ps, met ++ ks)
  | [], [], met, _, _, _, _ => by rw [List.headD_nil, chainP, if_pos rfl]; simp
  | k :: ks, p :: ps, met, h, ho, hr, hn => by
    have hk := hr k List.mem_cons_self
    have hm : k ∉ met := fun hm => (List.nodup_append.1 hn).2.2 k hm k List.mem_cons_self rfl
    have hx : ks.headD 0 < 256 := by
      cases ks with
      | nil => simp
      | cons a r => exact (hr a (by simp)).2
    have hx3 : ks.headD 0 = 0 ∨ p.length = 57 := by
      rcases ho.2.1 with rfl | h'
      · have := h.2.len; cases ks with
        | nil => exact .inl rfl
        | cons a r => simp at this
      · exact .inr h'
    have ih := chain_read ks ps (met ++ [k]) h.2 ho.2.2 (fun k hk => hr k (List.mem_cons_of_mem _ hk)) (by simpa using hn)
    rw [List.headD_cons, chainP, if_neg (by omega), dif_pos ⟨hk, hm⟩, h.1, if_pos (linkP_ok hx ho.1.1 ho.1.2 hx3), linkP_next hx, ih, linkP_data ho.1.2]
    simp
  | [], _ :: _, _, h, _, _, _ => h.elim
  | _ :: _, [], _, h, _, _, _ => h.elim
theorem zip_snd {α β : Type} : ∀ {a : List α} {b : List β}, a.length = b.length → (a.zip b).map (·.2) = b
  | [], [], _ => rfl
  | x :: a, y :: b, h => by rw [List.zip_cons_cons, List.map_cons, zip_snd (by simpa using h)]
theorem zip_fst {α β : Type} : ∀ {a : List α} {b : List β}, a.length = b.length → (a.zip b).map (·.1) = a
  | [], [], _ => rfl
  | x :: a, y :: b, h => by rw [List.zip_cons_cons, List.map_cons, zip_fst (by simpa using h)]
theorem read_read {pages : List Bs} {ks met : List Nat} {data : Bs} (h : Ch pages ks (piecesP data)) (hr : ∀ k ∈ ks, 2 ≤ k ∧ k < 256) (hn : (met ++ ks).Nodup) : readP pages met (ks.headD 0) data.length = some (data, ks, met ++ ks) := by
  have ho := pieces_ok _ data (Nat.le_refl _)
  unfold readP
  rw [chain_read ks _ met h ho.1 hr hn]
  have e : flatP (ks.zip (piecesP data)) = data := by unfold flatP; rw [zip_snd h.len, ho.2]
  simp only [e, if_true]
  rw [zip_fst h.len]
abbrev Fs := List (Bs × (Bs × List Nat))
def dirB (F : Fs) : Bs := F.flatMap fun q => entP q.1 q.2.1 q.2.2
def pgsF (F : Fs) : List Nat := F.flatMap fun q => q.2.2
theorem ent_read (name data r : Bs) (l : List Nat) (hn : name.length < 256) (hd : data.length < 65536) (hl : l.headD 0 < 65536) :
    nlP (entP name data l ++ r) = name.length ∧ nmP (entP name data l ++ r) = name ∧ r2P (entP name data l ++ r) = be data.length 2 ++ be (l.headD 0) 2 ++ r ∧ szP (entP name data l ++ r) = data.length ∧ r3P (entP name data l ++ r) = be (l.headD 0) 2 ++ r ∧ kP (entP name data l ++ r) = l.headD 0 ∧ r4P (entP name data l ++ r) = r := by
  have h1 : nlP (entP name data l ++ r) = name.length := by
    unfold nlP entP
    rw [List.append_assoc, List.append_assoc, List.append_assoc, List.take_left' (be_length _ _), unbe_be]; omega
  have h0 : (entP name data l ++ r).drop 1 = name ++ (be data.length 2 ++ be (l.headD 0) 2 ++ r) := by
    unfold entP
    rw [List.append_assoc, List.append_assoc, List.append_assoc, List.drop_left' (be_length _ _)]; simp
  have h2 : nmP (entP name data l ++ r) = name := by unfold nmP; rw [h1, h0, List.take_left' rfl]
  have h3 : r2P (entP name data l ++ r) = be data.length 2 ++ be (l.headD 0) 2 ++ r := by unfold r2P; rw [h1, h0, List.drop_left' rfl]
  have h4 : szP (entP name data l ++ r) = data.length := by unfold szP; rw [h3, List.append_assoc, List.take_left' (be_length _ _), unbe_be]; omega
  have h5 : r3P (entP name data l ++ r) = be (l.headD 0) 2 ++ r := by unfold r3P; rw [h3, List.append_assoc, List.drop_left' (be_length _ _)]
  have h6 : kP (entP name data l ++ r) = l.headD 0 := by unfold kP; rw [h5, List.take_left' (be_length _ _), unbe_be]; omega
  have h7 : r4P (entP name data l ++ r) = r := by unfold r4P; rw [h5, List.drop_left' (be_length _ _)]
  exact ⟨h1, h2, h3, h4, h5, h6, h7⟩
theorem name_len {s : Bs} (h : isNameP s = true) : 0 < s.length ∧ s.length ≤ 16 := by
  unfold isNameP at h
  have := of_decide_eq_true h
  exact ⟨List.length_pos_iff.2 this.1, this.2.1⟩
theorem gt_of {a b : Bs} (h : b < a) : gtP a b = true := by
  unfold gtP
  rw [less_iff, decide_eq_false (List.lt_asymm h), decide_eq_false (fun e => bs_ne h e.symm)]; rfl
theorem parse_read {pages : List Bs} : ∀ (F : Fs) (met : List Nat) (last : Bs) (acc : Fs), (∀ q ∈ F, Ch pages q.2.2 (piecesP q.2.1)) → (∀ q ∈ F, isNameP q.1 = true ∧ q.2.1.length ≤ 4000) → F.Pairwise (fun a b => a.1 < b.1) → (∀ q ∈ F, last < q.1) → (∀ q ∈ F, q.1 ∉ acc.map (·.1)) → (met ++ pgsF F).Nodup → (∀ k ∈ pgsF F, 2 ≤ k ∧ k < 256) → parseP pages met last (dirB F) acc = some (acc ++ F, met ++ pgsF F)
  | [], met, last, acc, _, _, _, _, _, _, _ => by
    rw [show dirB [] = [] from rfl, parseP, dif_pos rfl]; simp [pgsF]
  | x :: r, met, last, acc, h1, h2, h3, h4, h5, h6, h7 => by
    have hx2 := h2 x List.mem_cons_self
    have hnl := name_len hx2.1
    have hx : ∀ k ∈ x.2.2, 2 ≤ k ∧ k < 256 := fun k hk => h7 k (by unfold pgsF; rw [List.flatMap_cons]; exact List.mem_append_left _ hk)
    have hh : x.2.2.headD 0 < 65536 := by
      by_cases h0 : x.2.2.headD 0 = 0
      · omega
      · have := hx _ (head_mem h0); omega
    have e : dirB (x :: r) = entP x.1 x.2.1 x.2.2 ++ dirB r := by unfold dirB; rw [List.flatMap_cons]
    have ep : pgsF (x :: r) = x.2.2 ++ pgsF r := by unfold pgsF; rw [List.flatMap_cons]
    obtain ⟨e1, e2, e3, e4, e5, e6, e7⟩ := ent_read x.1 x.2.1 (dirB r) x.2.2 (by omega) (by omega) hh
    have hne : ¬ (entP x.1 x.2.1 x.2.2 ++ dirB r) = [] := by
      intro h0
      have := congrArg List.length h0
      rw [List.length_append, entP_len] at this
      simp at this
    rw [ep, ← List.append_assoc] at h6
    have hlen : (entP x.1 x.2.1 x.2.2 ++ dirB r).drop 1 = x.1 ++ (be x.2.1.length 2 ++ be (x.2.2.headD 0) 2 ++ dirB r) := by
      unfold entP
      rw [List.append_assoc, List.append_assoc, List.append_assoc, List.drop_left' (be_length _ _)]; simp
    have hfresh := h5 x List.mem_cons_self
    have ih := parse_read r (met ++ x.2.2) x.1 (acc ++ [x]) (fun q hq => h1 q (List.mem_cons_of_mem _ hq)) (fun q hq => h2 q (List.mem_cons_of_mem _ hq)) (List.pairwise_cons.1 h3).2 (List.pairwise_cons.1 h3).1
      (fun q hq hm => by
        rw [List.map_append, List.mem_append] at hm
        rcases hm with hm | hm
        · exact h5 q (List.mem_cons_of_mem _ hq) hm
        · simp at hm
          exact bs_ne ((List.pairwise_cons.1 h3).1 q hq) hm.symm)
      h6 (fun k hk => h7 k (by rw [ep]; exact List.mem_append_right _ hk))
    rw [e, parseP, dif_neg hne, if_pos (by rw [e1, hlen, List.length_append]; omega), if_pos (by rw [e3]; simp [be_length]), if_pos (by rw [e2, e4]; exact ⟨⟨hx2.1, gt_of (h4 x List.mem_cons_self)⟩, hx2.2⟩), if_pos (by rw [e5]; simp [be_length]), e6, e4, read_read (h1 x List.mem_cons_self) hx (List.Sublist.nodup (List.sublist_append_left _ _) h6)]
    simp only
    rw [e2, e7, mset_new hfresh, ih, ep]
    simp
/-- A state stands in pages. -/
structure Lay (pages : List Bs) (k g : Nat) (dl : List Nat) (F : Fs) : Prop where
  root : pages.getD k [] = rootP g (dl.headD 0) (dirB F).length
  dir : Ch pages dl (piecesP (dirB F))
  files : ∀ q ∈ F, Ch pages q.2.2 (piecesP q.2.1)
  nd : (dl ++ pgsF F).Nodup
  rng : ∀ k ∈ dl ++ pgsF F, 2 ≤ k ∧ k < 256
  so : F.Pairwise (fun a b => a.1 < b.1)
  nm : ∀ q ∈ F, isNameP q.1 = true ∧ q.2.1.length ≤ 4000
  len : F.length ≤ 30
  g1 : 1 ≤ g ∧ g ≤ 1073741824
theorem Lay.frame {pages pages' : List Bs} {k g : Nat} {dl : List Nat} {F : Fs} (h : Lay pages k g dl F) (hk : pages'.getD k [] = pages.getD k []) (hu : ∀ j ∈ dl ++ pgsF F, pages'.getD j [] = pages.getD j []) : Lay pages' k g dl F :=
  ⟨hk.trans h.root, h.dir.frame fun j hj => hu j (List.mem_append_left _ hj), fun q hq => (h.files q hq).frame fun j hj => hu j (List.mem_append_right _ (List.mem_flatMap.2 ⟨q, hq, hj⟩)), h.nd, h.rng, h.so, h.nm, h.len, h.g1⟩
theorem ent_sum (F : Fs) : (dirB F).length = (F.map fun q => q.1.length + 5).sum := by
  induction F with
  | nil => rfl
  | cons x r ih =>
    have e : dirB (x :: r) = entP x.1 x.2.1 x.2.2 ++ dirB r := by unfold dirB; rw [List.flatMap_cons]
    rw [e, List.length_append, entP_len, ih, List.map_cons, List.sum_cons]
theorem sum_le {α : Type} {f : α → Nat} {n : Nat} : ∀ {l : List α}, (∀ x ∈ l, f x ≤ n) → (l.map f).sum ≤ l.length * n
  | [], _ => by simp
  | x :: r, h => by
    have h1 := h x List.mem_cons_self
    have := sum_le (l := r) fun y hy => h y (List.mem_cons_of_mem _ hy)
    rw [List.map_cons, List.sum_cons, List.length_cons, Nat.succ_mul]; omega
theorem Lay.dlen {pages : List Bs} {k g : Nat} {dl : List Nat} {F : Fs} (h : Lay pages k g dl F) : (dirB F).length ≤ 630 := by
  rw [ent_sum]
  have := sum_le (f := fun q : Bs × (Bs × List Nat) => q.1.length + 5) (n := 21) (l := F) fun q hq => by have := name_len (h.nm q hq).1; omega
  have := h.len
  omega
theorem Lay.dhead {pages : List Bs} {k g : Nat} {dl : List Nat} {F : Fs} (h : Lay pages k g dl F) : dl.headD 0 < 256 := by
  by_cases h0 : dl.headD 0 = 0
  · omega
  · exact (h.rng _ (List.mem_append_left _ (head_mem h0))).2
theorem rootP_eq (g d s : Nat) : ∃ c, rootP g d s = (magicP ++ be g 4 ++ be d 2 ++ be s 2 ++ c) ++ List.replicate 48 0 ∧ c = sum4 [rootS g d s] := by
  refine ⟨_, ?_, rfl⟩
  unfold rootP padP
  rw [List.length_append, rootS_len, sum4_length]
  rfl
theorem rootP_len (g d s : Nat) : (rootP g d s).length = 64 := by
  unfold rootP padP
  simp [rootS_len, sum4_length]
theorem rootOf_root {g d s : Nat} (hg : 1 ≤ g ∧ g ≤ 1073741824) (hd : d < 65536) (hs : s < 65536) : rootOfP (rootP g d s) = some (g, d, s) := by
  obtain ⟨c, e, hc⟩ := rootP_eq g d s
  have h4 : c.length = 4 := by rw [hc]; exact sum4_length _
  have e1 : unbe (cutP (rootP g d s) 4 8) = g := by
    rw [e]
    have : cutP (magicP ++ be g 4 ++ be d 2 ++ be s 2 ++ c ++ List.replicate 48 0) 4 8 = be g 4 := by
      unfold cutP; simp [magicP, be]
    rw [this, unbe_be]; omega
  have e2 : unbe (cutP (rootP g d s) 8 10) = d := by
    rw [e]
    have : cutP (magicP ++ be g 4 ++ be d 2 ++ be s 2 ++ c ++ List.replicate 48 0) 8 10 = be d 2 := by
      unfold cutP; simp [magicP, be]
    rw [this, unbe_be]; omega
  have e3 : unbe (cutP (rootP g d s) 10 12) = s := by
    rw [e]
    have : cutP (magicP ++ be g 4 ++ be d 2 ++ be s 2 ++ c ++ List.replicate 48 0) 10 12 = be s 2 := by
      unfold cutP; simp [magicP, be]
    rw [this, unbe_be]; omega
  unfold rootOfP
  rw [e1, e2, e3, if_pos ⟨hg, rfl⟩]
theorem Lay.state {pages : List Bs} {k g : Nat} {dl : List Nat} {F : Fs} (h : Lay pages k g dl F) : stateP pages k = some ((g, dl.headD 0, (dirB F).length), dl, F) := by
  have hd := h.dhead
  have hs := h.dlen
  unfold stateP
  rw [h.root, rootOf_root h.g1 (by omega) (by omega)]
  simp only
  rw [read_read (met := []) h.dir (fun k hk => h.rng k (List.mem_append_left _ hk)) (List.Sublist.nodup (List.sublist_append_left _ _) h.nd)]
  simp only
  rw [parse_read F _ [] [] h.files h.nm h.so (fun q hq => by
    have := (name_len (h.nm q hq).1).1
    cases hq1 : q.1 with
    | nil => rw [hq1] at this; simp at this
    | cons a r => exact List.Lex.nil) (fun q hq => by simp) (by simpa using h.nd) (fun k hk => h.rng k (List.mem_append_right _ hk))]
  simp [h.len]
end Go.Proofs.YtlcgeepjekcfgaaGreat
