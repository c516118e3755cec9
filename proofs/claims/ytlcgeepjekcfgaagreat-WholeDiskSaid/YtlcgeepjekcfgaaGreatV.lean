/- Stores: the sorted names. -/
import Derived.Test.YtlcgeepjekcfgaaGreatU
import Derived.Test.YtlcgeepjekcfgaaGreatKeys
import Derived.Sort.KeysCollected
namespace Go.Proofs.YtlcgeepjekcfgaaGreat
open Go.RowKit
set_option linter.unusedVariables false
set_option linter.unusedSimpArgs false


open Go.Maps Go.Sort Go.Shelf
def RD : Value → Option (DataW Unit × List MemPlace) := fun _ => some (.nil, [])
/-- The keys of files, in their order. -/
def sortP (l : List Bs) : List Bs := l.mergeSort (fun x y => decide (x ≤ y))
theorem keyOf9 (s : Bs) (h : s.length ≤ maxLen) : keyOf P 9 (str s) = some (.string s) := by
  simp [keyOf, mapKey, Tryz.underlying9, str, ByteArray.size, h]
theorem ownsMap_of {w : World} {b : Nat} {m : List (Bs × Value)} (h : MapR str w b m) (hk : ∀ p ∈ m, p.1.length ≤ maxLen) (hn : m.length ≤ maxLen) : ∃ D : DataW Unit, w.ownsMap P 9 RD b m.length D ∧ Maps.size D = m.length ∧ (strKeys D).Perm (m.map (·.1)) := by
  obtain ⟨es, clock, h1, h2, h3, h4, h5⟩ := h
  have hlen : es.size = m.length := by have := congrArg List.length h2; simpa using this
  have hkeys : es.toList.map (·.key) = m.map (fun p => str p.1) := by
    have := congrArg (List.map (·.1)) h2
    simpa [Function.comp_def] using this
  have hmem : ∀ x ∈ es.toList, ∃ p ∈ m, x.key = str p.1 := fun x hx => by
    have : x.key ∈ es.toList.map (·.key) := List.mem_map.2 ⟨x, hx, rfl⟩
    rw [hkeys, List.mem_map] at this
    obtain ⟨p, hp, he⟩ := this
    exact ⟨p, hp, he.symm⟩
  have hrd : ∀ x ∈ es.toList, ∀ s : Bs, x.key = str s → s.length ≤ maxLen → Go.WideElems.rd P 9 RD x = some (.string s, .nil) := fun x hx s hs hl => by
    unfold Go.WideElems.rd
    rw [hs, keyOf9 s hl]; rfl
  have hinj : ∀ a b : Bs, str a = str b → a = b := fun a b e => by simp [str] at e; exact e
  have F : Go.WideElems.Fit P 9 RD es clock := by
    refine ⟨by omega, ⟨h5, h4, ?_⟩, fun x hx => ?_⟩
    · rw [hkeys]
      have : (m.map fun p => str p.1) = (m.map (·.1)).map str := by simp [Function.comp_def]
      rw [this]
      exact List.Pairwise.map str (fun a b hne e => hne (hinj a b e)) h3
    · obtain ⟨p, hp, he⟩ := hmem x hx
      exact ⟨_, hrd x hx p.1 he (hk p hp)⟩
  refine ⟨_, ⟨es, clock, h1, F, Nat.le_of_eq hlen, rfl⟩, ?_, ?_⟩
  · show ((es.toList.map (Go.WideElems.rg P 9 RD)).foldr DataW.insert []).length = _
    rw [Go.WideShapes.sorted_perm _ |>.length_eq]; simp [hlen]
  · show (((es.toList.map (Go.WideElems.rg P 9 RD)).foldr DataW.insert []).map fun p => strOf p.1).Perm _
    refine ((Go.WideShapes.sorted_perm _).map _).trans ?_
    rw [List.map_map]
    have e : es.toList.map ((fun p => strOf p.1) ∘ Go.WideElems.rg P 9 RD) = m.map (·.1) := by
      have e2 : es.toList.map ((fun p => strOf p.1) ∘ Go.WideElems.rg P 9 RD) = es.toList.map (fun x => match x.key with | .string s => s.data.toList | _ => []) := by
        refine List.map_congr_left fun x hx => ?_
        obtain ⟨p, hp, he⟩ := hmem x hx
        simp only [Function.comp_apply]
        rw [Go.WideElems.rg_of (hrd x hx p.1 he (hk p hp)), he]
        rfl
      rw [e2]
      have e3 : es.toList.map (fun x => match x.key with | .string s => s.data.toList | _ => []) = (es.toList.map (·.key)).map (fun k => match k with | .string s => s.data.toList | _ => []) := by simp [Function.comp_def]
      rw [e3, hkeys, List.map_map]
      rfl
    rw [e]
theorem sortsA (m : Nat) : AnyZ.SortsIn P Tryz.sortedA_ren Fence.wide m :=
  ⟨fun blk off cap ss W hH hblk hsz => callsIn_wide.2 (AnyM.slices_Sort_string Tryz.sortA blk off cap ss W hH hblk hsz),
   fun p cap W => callsIn_wide.2 (AnyM.slices_Sort_string_none Tryz.sortA p cap W)⟩
theorem keys_calls (mb : Option Nat) (w : World) : Calls P 63 [.map mb].toArray w (Ret fun v w' => v = .func (.func 79) #[] #[.pointer (some ⟨w.heap.size, 0, none⟩)] ∧ w' = w.alloc (.cells #[.map mb] 54)) :=
  (callsIn_wide (n := 5)).1 ((AnyZ.keys_in Tryz.keysA Fence.wide 5 trivial rfl mb w).mono (by rintro e w' ⟨rfl, rfl⟩; exact ⟨rfl, rfl⟩))
set_option maxHeartbeats 1000000 in
theorem sorted_calls (b : Nat) (m : List (Bs × Value)) (w : World) (h : MapR str w b m) (hk : ∀ p ∈ m, p.1.length ≤ 1000000) (hn : m.length ≤ 1000000) :
    Calls P 62 [.func (.func 79) #[] #[.pointer (some ⟨w.heap.size, 0, none⟩)]].toArray (w.alloc (.cells #[.map (some b)] 54)) (Ret fun v w' => w'.ownsRow 0 9 1 v m.length ((sortP (m.map (·.1))).map str) ∧ Kt No w w') := by
  have hml := maxLen_le
  obtain ⟨D0, hown, hsz, hperm⟩ := ownsMap_of h (fun p hp => by have := hk p hp; omega) (by omega)
  have hbl := hown.lt
  have hseq : SeqGives Fence.wide 2 P 79 #[.pointer (some ⟨w.heap.size, 0, none⟩)] encStr (fun ss => ss.Perm (strKeys D0)) (Maps.size D0) (w.alloc (.cells #[.map (some b)] 54)) :=
    AnyZ.keys_gives (ρ := Tryz.keysA_ren) { Tryz.keysA with } Fence.wide _ trivial rfl (by omega) w.heap.size b m.length D0 _ (by simp) (by simp) (by
      obtain ⟨es, clock, hb, Ft, hs, hD⟩ := hown
      exact ⟨es, clock, (Below.heap_alloc _ _ b hbl).trans hb, Ft, hs, hD⟩)
  have cS := AnyZ.sorted_in Tryz.sortedA Fence.wide 5 trivial trivial trivial trivial rfl (by omega) (sortsA _) (enters_of Tryz.func78 (by kernel_rfl) rfl) 79 #[.pointer (some ⟨w.heap.size, 0, none⟩)] trivial (enters_of Tryz.func79 (by kernel_rfl) rfl) _ _ (by omega) (by omega) _ hseq
  change CallsIn _ _ P 62 _ _ _ at cS
  refine (callsIn_wide (n := 5)).1 (cS.mono ?_)
  rintro e w' ⟨v, ss, rfl, hS, hrow, hnil, hb⟩
  have hps : ss.Perm (m.map (·.1)) := hS.trans hperm
  have hsl : ss.length = m.length := by have := hps.length_eq; simpa using this
  refine ⟨?_, (kt_alloc w _).no (Kt.of_below hb)⟩
  have e1 : ss.mergeSort (fun x y => decide (x ≤ y)) = sortP (m.map (·.1)) := mergeSort_of_perm hps
  rw [e1, hsl] at hrow
  have e2 : (sortP (m.map (·.1))).map encStr = (sortP (m.map (·.1))).map str := rfl
  rw [e2] at hrow
  refine ⟨hrow.1, ?_⟩
  rcases hrow.2 with h0 | ⟨g, cap, cur, h1, h2, h3⟩
  · exact .inl h0
  · exact .inr ⟨g, cap, cur, h1, Nat.zero_le _, h3⟩


theorem now_len {now : List (Bs × Bs)} (hk : ∀ p ∈ now, p.1.length ≤ 1000000) : ∀ p ∈ nowV now, p.1.length ≤ 1000000 := by
  intro p hp
  simp only [nowV, List.mem_map] at hp
  obtain ⟨q, hq, rfl⟩ := hp
  exact hk q hq

theorem Names_calls (b : Nat) (t : Sto) (w : World) (h : StoR b t w) (hk : ∀ p ∈ t.now, p.1.length ≤ 1000000) (hn : t.now.length ≤ 1000000) : Calls P 32 [.pointer (some ⟨b, 0, none⟩)].toArray w (Ret fun v w' => w'.ownsRow 0 9 1 v t.now.length ((sortP (t.now.map (·.1))).map str) ∧ Kt No w w') := by
  refine enterW 9 Tryz.func32 rfl rfl rfl ?_
  refine W.seq ?_
  -- region 0 (store.go:48)
  refine W.region ?_
  refine Run.ev (Ev.assign rfl) rfl rfl ?_   -- t2
  refine Run.nil ?_
  refine At.then ?_
  refine W.seq ?_
  -- region 1 (store.go:48)
  refine W.region ?_
  refine Run.ev (Ev.move rfl) rfl rfl ?_   -- t3
  refine Run.ev (Ev.nilCheck rfl) rfl rfl ?_   -- t4
  refine Run.ev (Ev.fieldAddr fo_57_2 rfl rfl) rfl rfl ?_   -- t5
  refine Run.ev (Ev.load sc_54 rfl (cell_of h.q.hb rfl)) rfl rfl ?_   -- t6
  refine Run.step rfl (Stp.callr en_63 rfl (keys_calls _ w) rfl ?_)   -- t7
  rintro v7 w7 ⟨rfl, rfl⟩
  refine Run.step rfl (Stp.callr en_62 rfl (sorted_calls t.mn (nowV t.now) w h.hmn (now_len hk) (by simpa [nowV] using hn)) rfl ?_)   -- t8
  rintro v8 w8 ⟨o8, k8⟩
  refine Run.ev (Ev.assign rfl) rfl rfl ?_   -- t2
  refine Run.nil ?_
  refine At.then ?_
  refine W.ret ?_
  have e8 : (nowV t.now).map (·.1) = t.now.map (·.1) := by simp [nowV, Function.comp_def]
  rw [e8] at o8
  exact At.ret1 rfl rfl rfl ⟨by simpa [nowV] using o8, k8⟩

end Go.Proofs.YtlcgeepjekcfgaaGreat
