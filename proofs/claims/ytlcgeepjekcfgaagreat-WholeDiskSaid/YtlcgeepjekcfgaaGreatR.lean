/- Reading a state. -/
import Derived.Test.YtlcgeepjekcfgaaGreatQ
namespace Go.Proofs.YtlcgeepjekcfgaaGreat
open Go.RowKit
set_option linter.unusedVariables false
set_option linter.unusedSimpArgs false


theorem mset_mem {κ V : Type} [DecidableEq κ] {m : List (κ × V)} {k : κ} {v : V} {q : κ × V} (h : q ∈ mset m k v) : q ∈ m ∨ q = (k, v) := by
  induction m with
  | nil => simp [mset] at h; exact .inr h
  | cons x r ih =>
    obtain ⟨a, u⟩ := x
    simp only [mset] at h
    split at h
    · rename_i he
      rcases List.mem_cons.1 h with h | h
      · right; rw [h, he]
      · left; exact List.mem_cons_of_mem _ h
    · rcases List.mem_cons.1 h with h | h
      · left; rw [h]; exact List.mem_cons_self
      · rcases ih h with h | h
        · left; exact List.mem_cons_of_mem _ h
        · right; exact h


theorem chainP_data : ∀ {pages : List Bs} {met : List Nat} {k : Nat} {xs : List (Nat × Bs)} {met1 : List Nat}, chainP pages met k = some (xs, met1) → ∀ x ∈ xs, x.2.length ≤ 57 := by
  have key : ∀ (n : Nat) (pages : List Bs) (met : List Nat) (k : Nat) (xs : List (Nat × Bs)) (met1 : List Nat), unmet met < n → chainP pages met k = some (xs, met1) → ∀ x ∈ xs, x.2.length ≤ 57 := by
    intro n
    induction n with
    | zero => intro pages met k xs met1 hn; omega
    | succ n ih =>
      intro pages met k xs met1 hn h
      rw [chainP] at h
      split at h
      · cases h; intro x hx; cases hx
      · split at h
        · rename_i hc
          split at h
          · rename_i hok
            rw [Option.map_eq_some_iff] at h
            obtain ⟨⟨ys, m2⟩, h1, h2⟩ := h
            cases h2
            have h3 := unmet_snoc hc.1.2 hc.2
            have h4 := ih _ _ _ _ _ (by omega) h1
            intro x hx
            rcases List.mem_cons.1 hx with rfl | hx
            · have h5 := hok.1.2; show (dataP (pages.getD k [])).length ≤ 57; unfold dataP; rw [List.length_take]; omega
            · exact h4 x hx
          · cases h
        · cases h
  intro pages met k xs met1 h
  exact key (unmet met + 1) pages met k xs met1 (by omega) h
theorem flat_len {xs : List (Nat × Bs)} (h : ∀ x ∈ xs, x.2.length ≤ 57) (hl : xs.length ≤ 256) : (flatP xs).length ≤ 15000 := by
  have : (flatP xs).length ≤ xs.length * 57 := by
    clear hl
    induction xs with
    | nil => simp [flatP]
    | cons x r ih =>
      have h1 := ih (fun y hy => h y (List.mem_cons_of_mem _ hy))
      have h2 := h x List.mem_cons_self
      have e : (flatP (x :: r)).length = x.2.length + (flatP r).length := by simp [flatP]
      rw [e, List.length_cons]; omega
  omega


theorem Sl.one {w : World} {e sz n : Nat} {v : Value} {xs : List Value} (h : Sl w e sz v n xs) : v.oneCell' = true := by
  obtain ⟨p, cap, rfl, _⟩ := h.len
  rfl


abbrev FV := Bs × List Nat × Value
def fvV (f : FV) : Value := .agg #[str f.1, f.2.2]
def filesV (fs : List (Bs × FV)) : List (Bs × Value) := fs.map fun p => (p.1, fvV p.2)
def FilesR (w : World) (mb : Nat) (fs : List (Bs × FV)) : Prop := MapR str w mb (filesV fs) ∧ ∀ p ∈ fs, Sl w 3 1 p.2.2.2 p.2.2.1.length (p.2.2.1.map natv)
def forget (fs : List (Bs × FV)) : List (Bs × (Bs × List Nat)) := fs.map fun p => (p.1, (p.2.1, p.2.2.1))
theorem sl_kt {w w' : World} {v : Value} {n : Nat} {xs : List Value} {S : Nat → Prop} (h : Sl w 3 1 v n xs) (hk : Kt S w w') (hS : ∀ b, S b → ∃ o, w.heap[b]? = some o ∧ ∀ c f, o ≠ .cells c 3 f) : Sl w' 3 1 v n xs :=
  h.kt hk (fun b hb hn hs => by obtain ⟨o, ho, hne⟩ := hS b hs; exact h.ne ho hne hb hn)
theorem FilesR.kt {w w' : World} {mb : Nat} {fs : List (Bs × FV)} {S : Nat → Prop} (h : FilesR w mb fs) (hk : Kt S w w') (hm : ¬ S mb) (hS : ∀ b, S b → ∃ o, w.heap[b]? = some o ∧ ∀ c f, o ≠ .cells c 3 f) : FilesR w' mb fs :=
  ⟨h.1.kt hk hm, fun p hp => sl_kt (h.2 p hp) hk hS⟩
theorem FilesR.kt0 {w w' : World} {mb : Nat} {fs : List (Bs × FV)} (h : FilesR w mb fs) (hk : Kt No w w') : FilesR w' mb fs := h.kt hk id (fun _ h => h.elim)
theorem DiR.kt {d m : Nat} {p : Option Addr} {cap : Nat} {pages : List Bs} {met : List Nat} {w w' : World} {S : Nat → Prop} (h : DiR d m p cap pages met w) (hk : Kt S w w') (h1 : ¬ S d) (h2 : ¬ S m) (h3 : ∀ b o, p = some ⟨b, o, none⟩ → ¬ S b) : DiR d m p cap pages met w' :=
  ⟨hk.at h.hd h1, h.hpg.kt hk (fun b hb hn => by
    obtain ⟨b', off, rfl⟩ := h.hpg.ptr (by omega)
    cases hb
    exact h3 _ _ rfl), h.hmp.kt hk h2⟩
theorem DiR.kt0 {d m : Nat} {p : Option Addr} {cap : Nat} {pages : List Bs} {met : List Nat} {w w' : World} (h : DiR d m p cap pages met w) (hk : Kt No w w') : DiR d m p cap pages met w' := h.kt hk id id (fun _ _ _ => id)

/-! ### The plain reading of a directory -/
def gtP (a b : Bs) : Bool := !(Op.bytesLess a b || decide (a = b))
def nlP (rest : Bs) : Nat := unbe (rest.take 1)
def nmP (rest : Bs) : Bs := (rest.drop 1).take (nlP rest)
def r2P (rest : Bs) : Bs := (rest.drop 1).drop (nlP rest)
def szP (rest : Bs) : Nat := unbe ((r2P rest).take 2)
def r3P (rest : Bs) : Bs := (r2P rest).drop 2
def kP (rest : Bs) : Nat := unbe ((r3P rest).take 2)
def r4P (rest : Bs) : Bs := (r3P rest).drop 2
theorem r4P_lt {rest : Bs} (h : rest ≠ []) : (r4P rest).length < rest.length := by
  have : 0 < rest.length := List.length_pos_iff.2 h
  simp [r4P, r3P, r2P]; omega
def parseP (pages : List Bs) (met : List Nat) (last rest : Bs) (fs : List (Bs × (Bs × List Nat))) : Option (List (Bs × (Bs × List Nat)) × List Nat) :=
  if h : rest = [] then some (fs, met)
  else if nlP rest ≤ (rest.drop 1).length then
    if 2 ≤ (r2P rest).length then
      if (isNameP (nmP rest) = true ∧ gtP (nmP rest) last = true) ∧ szP rest ≤ 4000 then
        if 2 ≤ (r3P rest).length then
          match readP pages met (kP rest) (szP rest) with
          | none => none
          | some (data, l, met') => parseP pages met' (nmP rest) (r4P rest) (mset fs (nmP rest) (data, l))
        else none
      else none
    else none
  else none
termination_by rest.length
decreasing_by exact r4P_lt h
abbrev StP := (Nat × Nat × Nat) × List Nat × List (Bs × (Bs × List Nat))
def stateP (pages : List Bs) (k : Nat) : Option StP :=
  match rootOfP (pages.getD k []) with
  | none => none
  | some r =>
    match readP pages [] r.2.1 r.2.2 with
    | none => none
    | some (dirB, dl, met) =>
      match parseP pages met [] dirB [] with
      | none => none
      | some (fs, _) => if fs.length ≤ 30 then some (r, dl, fs) else none

def zero6 : Array Value := #[natv 0, natv 0, natv 0, natv 0, .map none, .slice none 0 0]
def stV (r : Nat × Nat × Nat) (k mb : Nat) (dv : Value) : Array Value := #[natv r.1, natv r.2.1, natv r.2.2, natv k, .map (some mb), dv]
/-- What stateOf answers. -/
def StRes (w0 : World) (k : Nat) (r : Option StP) (v : Value) (w' : World) : Prop :=
  Kt No w0 w' ∧ ((r = none ∧ v = .tuple #[.agg zero6, .bool false]) ∨
    ∃ st mb dv fs, r = some st ∧ w0.heap.size ≤ mb ∧ v = .tuple #[.agg (stV st.1 k mb dv), .bool true] ∧ forget fs = st.2.2 ∧ FilesR w' mb fs ∧ Sl w' 3 1 dv st.2.1.length (st.2.1.map natv))

/-! ### The way out of stateOf -/
def dfd (k : FuncId) (cap : Array Value) : Deferred := { target := .fn (.func k) cap, args := #[] }
theorem Run.defer {N k : Nat} {ops : Array Oper} {Q : Exit → Act → World → Prop} {E : Env} {w : World} {x : Operand} {cap : Array Value} {ty : TypeId} {pos : String} {aft : Array Edge} (hx : E.ev x = some (.func (.func k) #[] cap)) (h : At ⟨none, N, [dfd k cap]⟩ Q .normal E w) :
    Run ⟨none, N, []⟩ ops Q [⟨none, .defer { callee := .value x, args := #[], argTypes := #[] }, ty, pos, aft, none⟩] E w := by
  intro a ha
  simp only [wpLs]
  rw [if_pos (by simp [Region.wanted])]
  refine ⟨fun _ _ => trivial, ?_⟩
  have hrun : (Oper.semAt (Wd none).round a.eval ⟨none, .defer { callee := .value x, args := #[], argTypes := #[] }, ty, pos, aft, none⟩).run P w = .ok (.defer (dfd k cap)) w := by
    show (Oper.semAt none a.eval _).run P w = _
    rw [Oper.semAt_none]
    simp [execOp, resolve, ha.ev hx, Deferred.ofValue, dfd]
  rw [hrun]
  exact h _ ⟨ha.size, by show dfd k cap :: a.defers = _; rw [ha.defers], ha.get⟩
theorem res2 {X : Cx} {E : Env} {a : Act} {w : World} {a4 a5 : Nat} {cs : Array Value} {b : Bool} (ha : Fits X E a) (h4 : E.get? 4 = some (.pointer (some ⟨a4, 0, none⟩))) (h5 : E.get? 5 = some (.pointer (some ⟨a5, 0, none⟩))) (hc4 : w.heap[a4]? = some (.cells cs 50 (0, 0))) (hs : cs.size = 6) (hc5 : w.heap[a5]? = some (.cells #[.bool b] 4 (0, 0))) :
    (results Tryz.f15 a.tmps).run P w = .ok (.tuple #[.agg cs, .bool b]) w := by
  have e4 := ha.get 4 _ h4
  have e5 := ha.get 5 _ h5
  have h2 := run_loadVar_agg (w := w) (o := 0) (vs := cs.toList) ag_50 hc4 (by rw [List.drop_zero]; exact List.take_of_length_le (by simp [hs])) (by simp [hs])
  have h3 := run_loadVar_scal (w := w) (p := ⟨a5, 0, none⟩) (v := .bool b) sc_4 (cell_of hc5 rfl)
  have hf : Tryz.f15.results = #[.cell 4 50, .cell 5 4] := rfl
  simp [results, hf, e4, e5, asAddr, h2, h3]
theorem At.retS {X : Cx} {R : Ending → World → Prop} {E : Env} {w : World} {a4 a5 : Nat} {cs : Array Value} {b : Bool} (hd : X.ds = [dfd 36 #[.pointer (some ⟨a4, 0, none⟩), .pointer (some ⟨a5, 0, none⟩)]]) (h4 : E.get? 4 = some (.pointer (some ⟨a4, 0, none⟩))) (h5 : E.get? 5 = some (.pointer (some ⟨a5, 0, none⟩)))
    (hc4 : w.heap[a4]? = some (.cells cs 50 (0, 0))) (hs : cs.size = 6) (hc5 : w.heap[a5]? = some (.cells #[.bool b] 4 (0, 0))) (h : R (.returned (.tuple #[.agg cs, .bool b])) w) : At X (bodyPostM (Wd none) 0 P Tryz.f15 R) .ret E w := by
  intro a ha
  show LeavesInM (Wd none) 0 P Tryz.f15 a.tmps R a.defers .returning w
  rw [ha.defers, hd]
  refine ⟨(by intro e; cases e), .inr ⟨wd_depth, _, _, 36, _, rfl, ?_, fun _ _ => trivial, (st1_ret (.pointer (some ⟨a4, 0, none⟩)) (.pointer (some ⟨a5, 0, none⟩)) w).mono ?_⟩⟩
  · exact en_36 _ w
  · rintro e u' w' ⟨rfl, rfl, rfl⟩
    exact ⟨_, res2 ha h4 h5 hc4 hs hc5, h⟩
theorem At.panS {X : Cx} {E : Env} {w w0 : World} {a4 a5 k : Nat} {cs : Array Value} {v0 : Value} {r : Option StP} (hd : X.ds = [dfd 36 #[.pointer (some ⟨a4, 0, none⟩), .pointer (some ⟨a5, 0, none⟩)]]) (h4 : E.get? 4 = some (.pointer (some ⟨a4, 0, none⟩))) (h5 : E.get? 5 = some (.pointer (some ⟨a5, 0, none⟩)))
    (hc4 : w.heap[a4]? = some (.cells cs 50 (0, 0))) (hs : cs.size = 6) (hc5 : w.heap[a5]? = some (.cells #[v0] 4 (0, 0))) (hne : a4 ≠ a5) (hn4 : w0.heap.size ≤ a4) (hn5 : w0.heap.size ≤ a5) (hk : Kt No w0 w) (hr : r = none) : At X (bodyPostM (Wd none) 0 P Tryz.f15 (Ret (StRes w0 k r))) (.panic brk) E w := by
  intro a ha
  show LeavesInM (Wd none) 0 P Tryz.f15 a.tmps _ a.defers (.panicking brk) w
  rw [ha.defers, hd]
  refine ⟨(by intro e; cases e), .inr ⟨wd_depth, _, _, 36, _, rfl, ?_, fun _ _ => trivial, (st1_brk a4 a5 cs v0 w hc4 hs hc5 hne).mono ?_⟩⟩
  · exact en_36 _ w
  · rintro e u' w' ⟨rfl, rfl, hk2, hb4, hb5⟩
    exact ⟨_, res2 ha h4 h5 hb4 rfl hb5, hk.new hk2 (by rintro i (rfl | rfl) <;> assumption), .inl ⟨hr, rfl⟩⟩

/-- What stateOf holds while it reads. -/
structure SoF (a4 a5 a21 a24 a26 : Nat) (p : Option Addr) (cap : Nat) (pages : List Bs) (r : Nat × Nat × Nat) (k : Nat) (dl : List Nat) (dv : Value) (met : List Nat) (fs : List (Bs × FV)) (w : World) : Prop where
  h4 : w.heap[a4]? = some (.cells (stV r k a21 dv) 50 (0, 0))
  h5 : w.heap[a5]? = some (.cells #[.bool false] 4 (0, 0))
  hD : DiR a26 a24 p cap pages met w
  hf : FilesR w a21 fs
  hd : Sl w 3 1 dv dl.length (dl.map natv)
section
variable {a4 a5 a21 a24 a26 : Nat} {p : Option Addr} {cap : Nat} {pages : List Bs} {r : Nat × Nat × Nat} {k : Nat} {dl : List Nat} {dv : Value} {met : List Nat} {fs : List (Bs × FV)} {w w' : World}
theorem SoF.kt0 (h : SoF a4 a5 a21 a24 a26 p cap pages r k dl dv met fs w) (hk : Kt No w w') : SoF a4 a5 a21 a24 a26 p cap pages r k dl dv met fs w' := ⟨hk.at0 h.h4, hk.at0 h.h5, h.hD.kt0 hk, h.hf.kt0 hk, h.hd.kt0 hk⟩
theorem SoF.kt7 {a7 : Nat} {c : Array Value} {f : Nat × Nat} (h : SoF a4 a5 a21 a24 a26 p cap pages r k dl dv met fs w) (hk : Kt (fun i => i = a7) w w') (h7 : w.heap[a7]? = some (.cells c 9 f)) (hp : ∀ b o, p = some ⟨b, o, none⟩ → b ≠ a7) : SoF a4 a5 a21 a24 a26 p cap pages r k dl dv met fs w' := by
  have hS : ∀ b, b = a7 → ∃ o, w.heap[b]? = some o ∧ ∀ c f, o ≠ .cells c 3 f := by rintro b rfl; exact ⟨_, h7, by intro c f h; cases h⟩
  exact ⟨hk.at h.h4 (by intro e; have h1 := h.h4; rw [e, h7] at h1; cases h1), hk.at h.h5 (by intro e; have h1 := h.h5; rw [e, h7] at h1; cases h1),
    h.hD.kt hk (by intro e; have h1 := h.hD.hd; rw [e, h7] at h1; cases h1) (h.hD.hmp.ne_cells h7) hp, h.hf.kt hk (h.hf.1.ne_cells h7) hS, sl_kt h.hd hk hS⟩
theorem SoF.setMet {met' : List Nat} (h : SoF a4 a5 a21 a24 a26 p cap pages r k dl dv met fs w) (hk : Kt (fun i => i = a24) w w') (hm : MapR i64v w' a24 (metV met')) (hp : ∀ b o, p = some ⟨b, o, none⟩ → b ≠ a24) (hne : a21 ≠ a24) : SoF a4 a5 a21 a24 a26 p cap pages r k dl dv met' fs w' := by
  obtain ⟨es, c, ho⟩ := h.hD.hmp.obj
  have hS : ∀ b, b = a24 → ∃ o, w.heap[b]? = some o ∧ ∀ c f, o ≠ .cells c 3 f := by rintro b rfl; exact ⟨_, ho, by intro c f h; cases h⟩
  exact ⟨hk.at h.h4 (Ne.symm (h.hD.hmp.ne_cells h.h4)), hk.at h.h5 (Ne.symm (h.hD.hmp.ne_cells h.h5)),
    ⟨hk.at h.hD.hd (Ne.symm (h.hD.hmp.ne_cells h.hD.hd)), h.hD.hpg.kt hk (fun b hb hn => by obtain ⟨b', off, rfl⟩ := h.hD.hpg.ptr (by omega); cases hb; exact hp _ _ rfl), hm⟩, h.hf.kt hk hne hS, sl_kt h.hd hk hS⟩
theorem SoF.put {name : Bs} {v : FV} (h : SoF a4 a5 a21 a24 a26 p cap pages r k dl dv met fs w) (hk : Kt (fun i => i = a21) w w') (hm : MapR str w' a21 (mset (filesV fs) name (fvV v))) (hv : Sl w 3 1 v.2.2 v.2.1.length (v.2.1.map natv)) (hp : ∀ b o, p = some ⟨b, o, none⟩ → b ≠ a21) (hne : a24 ≠ a21) : SoF a4 a5 a21 a24 a26 p cap pages r k dl dv met (mset fs name v) w' := by
  obtain ⟨es, c, ho⟩ := h.hf.1.obj
  have hS : ∀ b, b = a21 → ∃ o, w.heap[b]? = some o ∧ ∀ c f, o ≠ .cells c 3 f := by rintro b rfl; exact ⟨_, ho, by intro c f h; cases h⟩
  refine ⟨hk.at h.h4 (Ne.symm (h.hf.1.ne_cells h.h4)), hk.at h.h5 (Ne.symm (h.hf.1.ne_cells h.h5)), h.hD.kt hk (Ne.symm (h.hf.1.ne_cells h.hD.hd)) hne hp, ⟨?_, ?_⟩, sl_kt h.hd hk hS⟩
  · have e : mset (filesV fs) name (fvV v) = filesV (mset fs name v) := mset_map fvV fs name v
    rwa [e] at hm
  · intro q hq
    rcases mset_mem hq with hq | rfl
    · exact sl_kt (h.hf.2 q hq) hk hS
    · exact sl_kt hv hk hS
theorem SoF.pan {X : Cx} {E : Env} {w0 : World} {r0 : Option StP} (h : SoF a4 a5 a21 a24 a26 p cap pages r k dl dv met fs w) (hd : X.ds = [dfd 36 #[.pointer (some ⟨a4, 0, none⟩), .pointer (some ⟨a5, 0, none⟩)]]) (h4 : E.get? 4 = some (.pointer (some ⟨a4, 0, none⟩))) (h5 : E.get? 5 = some (.pointer (some ⟨a5, 0, none⟩)))
    (hn4 : w0.heap.size ≤ a4) (hn5 : w0.heap.size ≤ a5) (hk : Kt No w0 w) (hr : r0 = none) : At X (bodyPostM (Wd none) 0 P Tryz.f15 (Ret (StRes w0 k r0))) (.panic brk) E w :=
  At.panS hd h4 h5 h.h4 rfl h.h5 (by intro e; have h1 := h.h4; rw [e, h.h5] at h1; cases h1) hn4 hn5 hk hr
end


theorem build76 {w w' : World} {data : Bs} {pl : List Nat} {pv : Value} {n : Nat} {xs : List Value} (h : Sl w 3 1 pv n xs) : (Instr.build 76 [(0, str data), (1, pv)].toArray).run P w' = .ok (fvV (data, pl, pv)) w' := by
  obtain ⟨p, cap, rfl, _⟩ := h.len
  kernel_rfl
theorem stv_one {w : World} {r : Nat × Nat × Nat} {k mb n : Nat} {dv : Value} {xs : List Value} (h : Sl w 3 1 dv n xs) : ∀ v ∈ [natv r.1, natv r.2.1, natv r.2.2, natv k, .map (some mb), dv], v.oneCell' = true := by
  intro v hv
  simp at hv
  rcases hv with rfl | rfl | rfl | rfl | rfl | rfl
  all_goals first | rfl | exact h.one
theorem readP_len {pages : List Bs} {met : List Nat} {k size : Nat} {d : Bs} {l m : List Nat} (h : readP pages met k size = some (d, l, m)) : d.length ≤ 15000 := by
  unfold readP at h
  split at h
  · cases h
  · rename_i xs met1 hc
    split at h
    · cases h
      exact flat_len (chainP_data hc) (chainP_len hc)
    · cases h

set_option maxHeartbeats 2000000 in
theorem stateOf_calls (p : Option Addr) (cap : Nat) (pages : List Bs) (k : Nat) (w : World) (hpg : Sl w 9 1 (.slice p 256 cap) 256 (pages.map str)) (h64 : ∀ s ∈ pages, s.length = 64) (hl : pages.length = 256) (hk : k < 256) :
    Calls P 15 [.slice p 256 cap, natv k].toArray w (Ret (StRes w k (stateP pages k))) := by
  refine enterM 80 Tryz.func15 rfl rfl rfl ?_
  refine W.seq ?_
  -- region 0 (layout.go:163)
  refine W.region ?_
  refine Run.step rfl (Stp.alloc zc_50 rfl ?_)   -- t4
  intro a4 w4 e4 k4 b4 z4
  refine Run.step rfl (Stp.alloc zc_4 rfl ?_)   -- t5
  intro a5 w5 e5 k5 b5 z5
  replace b4 := k5.at0 b4
  refine Run.nil ?_
  refine At.then ?_
  refine W.seq ?_
  refine W.region ?_
  refine Run.ev (Ev.mkfunc rfl) rfl rfl ?_
  refine Run.defer rfl ?_
  refine At.then ?_
  refine W.seq ?_
  obtain ⟨pb, po, rfl⟩ := hpg.ptr (by omega)
  have hpb := hpg.lt0 (by omega)
  obtain ⟨s, hs⟩ : ∃ s, pages[k]? = some s := ⟨_, List.getElem?_eq_getElem (by omega)⟩
  have hgd : pages.getD k [] = s := by simp [hs]
  have hs64 := h64 s (List.mem_of_getElem? hs)
  have kt := k4.no k5
  have hp5 := hpg.kt0 kt
  -- region 2 (layout.go:172)
  refine W.region ?_
  refine Run.ev (Ev.move rfl) rfl rfl ?_   -- t15
  refine Run.ev (Ev.move rfl) rfl rfl ?_   -- t16
  refine Run.ev (Ev.indexAddr (j := k) Tryz.underlying34 es_9 rfl rfl (by omega) rfl) rfl rfl ?_   -- t17
  refine Run.ev (Ev.load sc_9 rfl (hp5.cell1 (j := k) (u := str s) (by simp [hs]) (by omega))) rfl rfl ?_   -- t18
  refine Run.step rfl (Stp.callo en_37 rfl (rootOf_calls s _ hs64) rfl (fun hn w' kk => by (repeat (first | with_reducible apply At.then_panic | with_reducible apply At.block_panic)); exact At.panS rfl rfl rfl (kk.at0 b4) rfl (kk.at0 b5) (by omega) (by omega) (by omega) (kt.no kk) (by rw [stateP, hgd, hn])) ?_)   -- t19
  rintro r v19 w19 hr ⟨rfl, k19⟩
  replace b4 := k19.at0 b4
  replace b5 := k19.at0 b5
  replace kt := kt.no k19
  refine Run.ev (Ev.move rfl) rfl rfl ?_   -- t20
  refine Run.step rfl (Stp.makeMap rfl ?_)   -- t21
  intro a21 w21 e21 k21 b21 z21
  replace b4 := k21.at0 b4
  replace b5 := k21.at0 b5
  replace kt := kt.no k21
  have hf := MapR.empty (enc := str) b21
  refine Run.ev (Ev.build (vs := [(0, rootV r), (1, natv k), (2, .map (some a21))]) (v := .agg #[natv r.1, natv r.2.1, natv r.2.2, natv k, .map (some a21), .slice none 0 0]) rfl rfl (by kernel_rfl)) rfl rfl ?_   -- t22
  refine Run.step rfl (Stp.storeA ag_50 rfl rfl rfl (by simp [natv, Value.oneCell']) b4 (by simp) ?_)   -- tNone
  intro wS kS bS zS
  have s5 := k5.size
  have s19 := k19.size
  replace b4 : wS.heap[a4]? = some (.cells (stV r k a21 (.slice none 0 0)) 50 (0, 0)) := bS
  replace b5 := kS.at b5 (by omega)
  replace hf := hf.kt kS (by omega)
  replace kt := kt.new kS (by rintro i rfl; omega)
  refine Run.nil ?_
  refine At.then ?_
  refine W.seq ?_
  -- region 3 (layout.go:173)
  refine W.region ?_
  refine Run.ev (Ev.move rfl) rfl rfl ?_   -- t23
  refine Run.step rfl (Stp.makeMap rfl ?_)   -- t24
  intro a24 w24 e24 k24 b24 z24
  replace b4 := k24.at0 b4
  replace b5 := k24.at0 b5
  replace kt := kt.no k24
  replace hf := hf.kt0 k24
  have hm := MapR.empty (enc := i64v) b24
  refine Run.ev (Ev.build (vs := [(0, .slice (some ⟨pb, po, none⟩) 256 cap), (1, .map (some a24))]) (v := .agg #[.slice (some ⟨pb, po, none⟩) 256 cap, .map (some a24)]) rfl rfl (by kernel_rfl)) rfl rfl ?_   -- t25
  refine Run.step rfl (Stp.box rfl rfl ?_)   -- t26
  intro a26 w26 e26 k26 b26 z26
  replace b4 := k26.at0 b4
  replace b5 := k26.at0 b5
  replace kt := kt.no k26
  replace hf := hf.kt0 k26
  replace hm := hm.kt0 k26
  have hD : DiR a26 a24 (some ⟨pb, po, none⟩) cap pages [] w26 := ⟨b26, hpg.kt0 kt, hm⟩
  refine Run.ev (Ev.assign rfl) rfl rfl ?_   -- t6
  refine Run.nil ?_
  refine At.then ?_
  refine W.seq ?_
  -- region 4 (layout.go:174)
  refine W.region ?_
  refine Run.ev (Ev.move rfl) rfl rfl ?_   -- t28
  refine Run.ev (Ev.fieldAddr fo_50_0 rfl rfl) rfl rfl ?_   -- t29
  refine Run.ev (Ev.fieldAddr fo_46_1 rfl rfl) rfl rfl ?_   -- t30
  refine Run.ev (Ev.load sc_3 rfl (cell_of b4 rfl)) rfl rfl ?_   -- t31
  refine Run.ev (Ev.fieldAddr fo_50_0 rfl rfl) rfl rfl ?_   -- t32
  refine Run.ev (Ev.fieldAddr fo_46_2 rfl rfl) rfl rfl ?_   -- t33
  refine Run.ev (Ev.load sc_3 rfl (cell_of b4 rfl)) rfl rfl ?_   -- t34
  refine Run.step rfl (Stp.callo en_38 rfl (read_calls a26 a24 _ cap pages [] r.2.1 r.2.2 _ hD h64 hl) rfl (fun hn w' kk => by (repeat (first | with_reducible apply At.then_panic | with_reducible apply At.block_panic)); exact At.panS rfl rfl rfl (kk.at b4 (by omega)) rfl (kk.at b5 (by omega)) (by omega) (by omega) (by omega) (kt.new kk (by rintro i rfl; omega)) (by rw [stateP, hgd, hr]; simp only; rw [hn])) ?_)   -- t35
  rintro ⟨dirB, dl, met1⟩ v35 w35 hrd ⟨dv, rfl, hdl, hm1, k35⟩
  dsimp only at hdl hm1
  replace b4 := k35.at b4 (by omega)
  replace b5 := k35.at b5 (by omega)
  replace hf := hf.kt k35 (by omega)
  replace kt := kt.new k35 (by rintro i rfl; omega)
  have hD1 : DiR a26 a24 (some ⟨pb, po, none⟩) cap pages met1 w35 := ⟨k35.at b26 (by omega), hpg.kt0 kt, hm1⟩
  refine Run.ev (Ev.move rfl) rfl rfl ?_   -- t27
  refine Run.ev (Ev.extract rfl rfl) rfl rfl ?_   -- t36
  refine Run.ev (Ev.extract rfl rfl) rfl rfl ?_   -- t37
  refine Run.step rfl (Stp.alloc zc_9 rfl ?_)   -- t7
  intro a7 w7 e7 k7 b7 z7
  replace b4 := k7.at0 b4
  replace b5 := k7.at0 b5
  replace kt := kt.no k7
  replace hf := hf.kt0 k7
  replace hD1 := hD1.kt0 k7
  replace hdl := hdl.kt0 k7
  have s35 := k35.size
  refine Run.step rfl (Stp.store sc_9 sz_9 rfl rfl rfl b7 (by simp) ?_)   -- tNone
  intro wT kT bT zT
  replace b4 := kT.at b4 (by omega)
  replace b5 := kT.at b5 (by omega)
  replace kt := kt.new kT (by rintro i rfl; omega)
  replace hf := hf.kt kT (by omega)
  replace hD1 := hD1.kt kT (by omega) (by omega) (fun b o e => by cases e; omega)
  replace hdl := sl_kt hdl kT (by rintro b rfl; exact ⟨_, b7, by intro c f h; cases h⟩)
  refine Run.ev (Ev.assign rfl) rfl rfl ?_   -- t8
  refine Run.nil ?_
  refine At.then ?_
  refine W.seq ?_
  -- region 5 (layout.go:175)
  refine W.region ?_
  refine Run.ev (Ev.move rfl) rfl rfl ?_   -- t38
  refine Run.ev (Ev.fieldAddr fo_50_3 rfl rfl) rfl rfl ?_   -- t39
  refine Run.step rfl (Stp.store sc_48 sz_48 rfl rfl (hdl.one) b4 (by simp [stV]) ?_)   -- tNone
  intro wU kU bU zU
  replace b5 := kU.at b5 (by omega)
  replace kt := kt.new kU (by rintro i rfl; omega)
  replace hf := hf.kt kU (by omega)
  replace hD1 := hD1.kt kU (by omega) (by omega) (fun b o e => by cases e; omega)
  replace hdl := sl_kt hdl kU (by rintro b rfl; exact ⟨_, b4, by intro c f h; cases h⟩)
  have h7 := kU.at bT (by omega)
  have sf : SoF a4 a5 a21 a24 a26 (some ⟨pb, po, none⟩) cap pages r k dl dv met1 [] wU := ⟨bU, b5, hD1, ⟨hf, fun q hq => by cases hq⟩, hdl⟩
  have hlen0 : dirB.length ≤ 15000 := readP_len hrd
  have hst : stateP pages k = match parseP pages met1 [] dirB [] with | none => none | some (fs, _) => if fs.length ≤ 30 then some (r, dl, fs) else none := by
    rw [stateP, hgd, hr]
    simp only
    rw [hrd]
  have hpa7 : ∀ (b o : Nat), some (⟨pb, po, none⟩ : Addr) = some ⟨b, o, none⟩ → b ≠ a7 := fun b o e => by cases e; omega
  have hpa24 : ∀ (b o : Nat), some (⟨pb, po, none⟩ : Addr) = some ⟨b, o, none⟩ → b ≠ a24 := fun b o e => by cases e; omega
  have hpa21 : ∀ (b o : Nat), some (⟨pb, po, none⟩ : Addr) = some ⟨b, o, none⟩ → b ≠ a21 := fun b o e => by cases e; omega
  have hn1 : a21 ≠ a24 := by omega
  have hn4 : w.heap.size ≤ a4 ∧ w.heap.size ≤ a5 ∧ w.heap.size ≤ a7 ∧ w.heap.size ≤ a24 ∧ w.heap.size ≤ a21 := by omega
  refine Run.nil ?_
  refine At.then ?_
  refine W.seq ?_
  -- region 6 (layout.go:176)
  refine W.region ?_
  refine Run.ev (Ev.assign rfl) rfl rfl ?_   -- t9
  refine Run.nil ?_
  refine At.then ?_
  refine W.seq ?_
  refine W.block ?_
  refine W.loop (fun (x : List Nat × Bs × Bs × List (Bs × FV)) => [(4, .pointer (some ⟨a4, 0, none⟩)), (5, .pointer (some ⟨a5, 0, none⟩)), (6, .pointer (some ⟨a26, 0, none⟩)), (7, .pointer (some ⟨a7, 0, none⟩)), (9, str x.2.1)])
    (fun x w' => SoF a4 a5 a21 a24 a26 (some ⟨pb, po, none⟩) cap pages r k dl dv x.1 x.2.2.2 w' ∧ w'.heap[a7]? = some (.cells #[str x.2.2.1] 9 (0, 0)) ∧ Kt No w w' ∧ parseP pages x.1 x.2.1 x.2.2.1 (forget x.2.2.2) = parseP pages met1 [] dirB [] ∧ x.2.2.1.length ≤ 15000)
    (fun x => x.2.2.1.length) (met1, [], dirB, []) ⟨sf, h7, kt, rfl, hlen0⟩ (Env.sub_cons rfl (Env.sub_cons rfl (Env.sub_cons rfl (Env.sub_cons rfl (Env.sub_cons rfl (Env.sub_nil _)))))) ?_
  clear sf h7 kt hf hD1 hdl b4 b5
  rintro ⟨met, last, rest, fs⟩ wl ⟨sf, h7, kt, hp, hlen⟩
  dsimp only at sf h7 kt hp hlen
  show W _ _ _ [(4, .pointer (some ⟨a4, 0, none⟩)), (5, .pointer (some ⟨a5, 0, none⟩)), (6, .pointer (some ⟨a26, 0, none⟩)), (7, .pointer (some ⟨a7, 0, none⟩)), (9, str last)] wl
  refine W.seq ?_
  refine W.seq ?_
  -- region 7 (layout.go:177)
  refine W.region ?_
  refine Run.ev (Ev.load sc_9 rfl (cell_of h7 rfl)) rfl rfl ?_   -- t40
  refine Run.ev (Ev.sneq (q := []) rfl rfl rfl) rfl rfl ?_   -- t41
  refine Run.nil ?_
  refine At.then ?_
  refine W.cond rfl (fun hc41 => ?_) (fun hc41 => ?_)
  · have hne : rest ≠ [] := by simpa using hc41
    have hpos : 0 < rest.length := List.length_pos_iff.2 hne
    rw [parseP, dif_neg hne] at hp
    have hl1 : (rest.drop 1).length ≤ 15000 := by simp; omega
    have hl2 : (r2P rest).length ≤ 15000 := by simp [r2P]; omega
    have hl3 : (r3P rest).length ≤ 15000 := by simp [r3P, r2P]; omega
    have hnl : nlP rest < 256 := by
      have h1 := unbe_lt (rest.take 1)
      have h2 : 256 ^ (rest.take 1).length ≤ 256 ^ 1 := Nat.pow_le_pow_right (by omega) (by simp; omega)
      unfold nlP; omega
    refine W.skip ?_
    refine At.then ?_
    refine W.block ?_
    refine W.seq ?_
    -- region 8 (layout.go:178)
    refine W.region ?_
    refine Run.step rfl (Stp.callo en_39 rfl (cut_calls a7 1 rest _ h7 (by omega) (by omega)) rfl (fun hn w' kk => by (repeat (first | with_reducible apply At.then_panic | with_reducible apply At.block_panic)); exact SoF.pan (sf.kt0 kk) rfl rfl rfl (by omega) (by omega) (kt.no kk) (absurd hn (by rw [if_pos (by omega)]; intro h; cases h))) ?_)   -- t42
    rintro x42 v42 w42 hn ⟨rfl, k42, h7b, z42⟩
    replace sf := sf.kt7 k42 h7 hpa7
    replace kt := kt.new k42 (by rintro i rfl; omega)
    replace h7 := h7b
    clear h7b
    refine Run.step rfl (Stp.callr en_40 rfl (number_calls (rest.take 1) _ (by simp; omega)) rfl ?_)   -- t43
    rintro v43 w43 ⟨rfl, k43⟩
    replace sf := sf.kt0 k43
    replace kt := kt.no k43
    replace h7 := k43.at0 h7
    refine Run.step rfl (Stp.callo en_39 rfl (cut_calls a7 (nlP rest) (rest.drop 1) _ h7 (by omega) (by omega)) rfl (fun hn w' kk => by (repeat (first | with_reducible apply At.then_panic | with_reducible apply At.block_panic)); exact SoF.pan (sf.kt0 kk) rfl rfl rfl (by omega) (by omega) (kt.no kk) (by rw [hst, ← hp, if_neg]; intro h; rw [if_pos h] at hn; cases hn)) ?_)   -- t44
    rintro x44 v44 w44 hn ⟨rfl, k44, h7b, z44⟩
    replace sf := sf.kt7 k44 h7 hpa7
    replace kt := kt.new k44 (by rintro i rfl; omega)
    replace h7 := h7b
    clear h7b
    have ho1 : nlP rest ≤ (rest.drop 1).length := by
      rcases Nat.lt_or_ge (rest.drop 1).length (nlP rest) with h | h
      · rw [if_neg (by omega)] at hn; cases hn
      · exact h
    rw [if_pos ho1] at hp
    refine Run.ev (Ev.assign rfl) rfl rfl ?_   -- t10
    refine Run.nil ?_
    refine At.then ?_
    refine W.seq ?_
    -- region 9 (layout.go:179)
    refine W.region ?_
    refine Run.step rfl (Stp.callo en_39 rfl (cut_calls a7 2 (r2P rest) _ h7 (by omega) (by omega)) rfl (fun hn w' kk => by (repeat (first | with_reducible apply At.then_panic | with_reducible apply At.block_panic)); exact SoF.pan (sf.kt0 kk) rfl rfl rfl (by omega) (by omega) (kt.no kk) (by rw [hst, ← hp, if_neg]; intro h; rw [if_pos h] at hn; cases hn)) ?_)   -- t45
    rintro x45 v45 w45 hn ⟨rfl, k45, h7b, z45⟩
    replace sf := sf.kt7 k45 h7 hpa7
    replace kt := kt.new k45 (by rintro i rfl; omega)
    replace h7 := h7b
    clear h7b
    have ho2 : 2 ≤ (r2P rest).length := by
      rcases Nat.lt_or_ge (r2P rest).length 2 with h | h
      · rw [if_neg (by omega)] at hn; cases hn
      · exact h
    rw [if_pos ho2] at hp
    refine Run.step rfl (Stp.callr en_40 rfl (number_calls ((r2P rest).take 2) _ (by simp; omega)) rfl ?_)   -- t46
    rintro v46 w46 ⟨rfl, k46⟩
    replace sf := sf.kt0 k46
    replace kt := kt.no k46
    replace h7 := k46.at0 h7
    refine Run.ev (Ev.assign rfl) rfl rfl ?_   -- t11
    refine Run.nil ?_
    refine At.then ?_
    refine W.seq ?_
    -- region 10 (layout.go:180)
    refine W.region ?_
    refine Run.ev (Ev.move rfl) rfl rfl ?_   -- t47
    refine Run.step rfl (Stp.callr en_42 rfl (isName_calls (nmP rest) _ (by simp [nmP]; omega)) rfl ?_)   -- t48
    rintro v48 w48 ⟨rfl, k48⟩
    replace sf := sf.kt0 k48
    replace kt := kt.no k48
    replace h7 := k48.at0 h7
    refine Run.ev (Ev.move rfl) rfl rfl ?_   -- t49
    refine Run.evg rfl rfl (fun hg => (Ev.move rfl)) rfl ?_   -- t50
    refine Run.evg rfl rfl (fun hg => (Ev.move rfl)) rfl ?_   -- t51
    refine Run.evg rfl rfl (fun hg => (Ev.sgtr (p := nmP rest) (q := last) (b := gtP (nmP rest) last) (ifp hg) (ifp hg) rfl)) rfl ?_   -- t52
    refine Run.ev (Ev.pick_and rfl rfl rfl) rfl rfl ?_   -- t53
    refine Run.ev (Ev.move rfl) rfl rfl ?_   -- t54
    refine Run.evg rfl rfl (fun hg => (Ev.move rfl)) rfl ?_   -- t55
    refine Run.evg rfl rfl (fun hg => (Ev.leq (m := szP rest) (n := 4000) (ifp hg) rfl rfl)) rfl ?_   -- t56
    refine Run.ev (Ev.pick_and rfl rfl rfl) rfl rfl ?_   -- t57
    refine Run.step rfl (Stp.callo en_41 rfl (need_calls _ _) rfl (fun hn w' kk => by (repeat (first | with_reducible apply At.then_panic | with_reducible apply At.block_panic)); exact SoF.pan (sf.kt0 kk) rfl rfl rfl (by omega) (by omega) (kt.no kk) (by rw [hst, ← hp, if_neg]; rintro ⟨⟨h1, h2⟩, h3⟩; simp [h1, h2] at hn; omega)) ?_)   -- t58
    rintro x58 v58 w58 hn rfl
    have ho3 : (isNameP (nmP rest) = true ∧ gtP (nmP rest) last = true) ∧ szP rest ≤ 4000 := by
      simp at hn
      exact ⟨⟨hn.1, hn.2.1⟩, by omega⟩
    rw [if_pos ho3] at hp
    refine Run.nil ?_
    refine At.then ?_
    refine W.seq ?_
    -- region 11 (layout.go:181)
    refine W.region ?_
    refine Run.ev (Ev.move rfl) rfl rfl ?_   -- t59
    refine Run.ev (Ev.assign rfl) rfl rfl ?_   -- t9
    refine Run.nil ?_
    refine At.then ?_
    refine W.seq ?_
    -- region 12 (layout.go:182)
    refine W.region ?_
    refine Run.ev (Ev.move rfl) rfl rfl ?_   -- t61
    refine Run.step rfl (Stp.callo en_39 rfl (cut_calls a7 2 (r3P rest) _ h7 (by omega) (by omega)) rfl (fun hn w' kk => by (repeat (first | with_reducible apply At.then_panic | with_reducible apply At.block_panic)); exact SoF.pan (sf.kt0 kk) rfl rfl rfl (by omega) (by omega) (kt.no kk) (by rw [hst, ← hp, if_neg]; intro h; rw [if_pos h] at hn; cases hn)) ?_)   -- t62
    rintro x62 v62 w62 hn ⟨rfl, k62, h7b, z62⟩
    replace sf := sf.kt7 k62 h7 hpa7
    replace kt := kt.new k62 (by rintro i rfl; omega)
    replace h7 := h7b
    clear h7b
    have ho4 : 2 ≤ (r3P rest).length := by
      rcases Nat.lt_or_ge (r3P rest).length 2 with h | h
      · rw [if_neg (by omega)] at hn; cases hn
      · exact h
    rw [if_pos ho4] at hp
    refine Run.step rfl (Stp.callr en_40 rfl (number_calls ((r3P rest).take 2) _ (by simp; omega)) rfl ?_)   -- t63
    rintro v63 w63 ⟨rfl, k63⟩
    replace sf := sf.kt0 k63
    replace kt := kt.no k63
    replace h7 := k63.at0 h7
    refine Run.ev (Ev.move rfl) rfl rfl ?_   -- t64
    refine Run.step rfl (Stp.callo en_38 rfl (read_calls a26 a24 _ cap pages met (kP rest) (szP rest) _ sf.hD h64 hl) rfl (fun hn w' kk => by (repeat (first | with_reducible apply At.then_panic | with_reducible apply At.block_panic)); exact At.panS rfl rfl rfl (kk.at sf.h4 (Ne.symm (sf.hD.hmp.ne_cells sf.h4))) rfl (kk.at sf.h5 (Ne.symm (sf.hD.hmp.ne_cells sf.h5))) (by omega) (by omega) (by omega) (kt.new kk (by rintro i rfl; omega)) (by rw [hst, ← hp, hn])) ?_)   -- t65
    rintro ⟨data, pl, met2⟩ v65 w65 hrd2 ⟨pv, rfl, hpl, hm2, k65⟩
    dsimp only at hpl hm2
    rw [hrd2] at hp
    replace h7 := k65.at h7 (Ne.symm (sf.hD.hmp.ne_cells h7))
    replace sf := sf.setMet k65 hm2 hpa24 hn1
    replace kt := kt.new k65 (by rintro i rfl; omega)
    refine Run.ev (Ev.move rfl) rfl rfl ?_   -- t60
    refine Run.ev (Ev.extract rfl rfl) rfl rfl ?_   -- t66
    refine Run.ev (Ev.extract rfl rfl) rfl rfl ?_   -- t67
    refine Run.ev (Ev.assign rfl) rfl rfl ?_   -- t12
    refine Run.ev (Ev.assign rfl) rfl rfl ?_   -- t13
    refine Run.nil ?_
    refine At.then ?_
    -- region 13 (layout.go:183)
    refine W.region ?_
    refine Run.ev (Ev.fieldAddr fo_50_2 rfl rfl) rfl rfl ?_   -- t68
    refine Run.ev (Ev.load sc_47 rfl (cell_of sf.h4 rfl)) rfl rfl ?_   -- t69
    refine Run.ev (Ev.move rfl) rfl rfl ?_   -- t70
    refine Run.ev (Ev.move rfl) rfl rfl ?_   -- t71
    refine Run.ev (Ev.move rfl) rfl rfl ?_   -- t72
    refine Run.ev (Ev.build (vs := [(0, str data), (1, pv)]) (v := fvV (data, pl, pv)) rfl rfl (build76 hpl)) rfl rfl ?_   -- t73
    refine Run.step rfl (Stp.mapUpdate (k := nmP rest) keyStr Tryz.underlying47 Tryz.underlying9 rfl rfl rfl sf.hf.1 ?_)   -- tNone
    intro wV kV bV zV
    replace h7 := kV.at h7 (Ne.symm (sf.hf.1.ne_cells h7))
    replace sf := sf.put kV bV hpl hpa21 (Ne.symm hn1)
    replace kt := kt.new kV (by rintro i rfl; omega)
    refine Run.nil ?_
    refine At.block ?_
    exact At.round (met2, nmP rest, r4P rest, mset fs (nmP rest) (data, pl, pv)) (Env.sub_cons rfl (Env.sub_cons rfl (Env.sub_cons rfl (Env.sub_cons rfl (Env.sub_cons rfl (Env.sub_nil _)))))) ⟨sf, h7, kt, by rw [← hp]; show parseP pages met2 (nmP rest) (r4P rest) (forget (mset fs (nmP rest) (data, pl, pv))) = parseP pages met2 (nmP rest) (r4P rest) (mset (forget fs) (nmP rest) (data, pl)); congr 1; exact (mset_map (fun (f : FV) => (f.1, f.2.1)) fs (nmP rest) (data, pl, pv)).symm, by have := r4P_lt hne; show (r4P rest).length ≤ _; omega⟩ (r4P_lt hne)
  · have hne : rest = [] := by simpa using hc41
    rw [parseP, dif_pos hne] at hp
    refine W.exit ?_
    refine At.then_exit ?_
    refine At.then_exit ?_
    refine At.block_here ?_
    refine At.then ?_
    refine W.seq ?_
    -- region 14 (layout.go:185)
    refine W.region ?_
    refine Run.ev (Ev.fieldAddr fo_50_2 rfl rfl) rfl rfl ?_   -- t74
    refine Run.ev (Ev.load sc_47 rfl (cell_of sf.h4 rfl)) rfl rfl ?_   -- t75
    refine Run.ev (Ev.mlen (m := filesV fs) Tryz.underlying47 rfl sf.hf.1) rfl rfl ?_   -- t76
    refine Run.ev (Ev.leq (m := ((filesV fs).length : Int)) rfl rfl rfl) rfl rfl ?_   -- t77
    refine Run.step rfl (Stp.callo en_41 rfl (need_calls _ _) rfl (fun hn w' kk => by (repeat (first | with_reducible apply At.then_panic | with_reducible apply At.block_panic)); exact SoF.pan (sf.kt0 kk) rfl rfl rfl (by omega) (by omega) (kt.no kk) (by rw [hst, ← hp]; simp at hn; simp [forget, filesV] at hn ⊢; omega)) ?_)   -- t78
    rintro x78 v78 w78 hn rfl
    have ho5 : (forget fs).length ≤ 30 := by
      simp [filesV] at hn
      simp [forget]; omega
    refine Run.nil ?_
    refine At.then ?_
    refine W.seq ?_
    -- region 15 (layout.go:186)
    refine W.region ?_
    refine Run.ev (Ev.loadA ag_50 rfl sf.h4 rfl rfl) rfl rfl ?_   -- t79
    refine Run.step rfl (Stp.storeA (vs := [natv r.1, natv r.2.1, natv r.2.2, natv k, .map (some a21), dv]) ag_50 rfl rfl rfl (stv_one sf.hd) sf.h4 (by simp [stV]) ?_)   -- tNone
    intro wX kX bX zX
    refine Run.step rfl (Stp.store sc_4 sz_4 rfl rfl rfl (kX.at sf.h5 (by omega)) (by simp) ?_)   -- tNone
    intro wY kY bY zY
    refine Run.nil ?_
    refine At.then ?_
    refine W.ret ?_
    have hk2 : Kt (fun i => i = a4 ∨ i = a5) w78 wY := (kX.mono (fun i _ h => .inl h)).trans kY (fun i _ h => .inr h)
    have hS2 : ∀ b, (b = a4 ∨ b = a5) → ∃ o, w78.heap[b]? = some o ∧ ∀ c f, o ≠ .cells c 3 f := by
      rintro b (rfl | rfl)
      · exact ⟨_, sf.h4, by intro c f h; cases h⟩
      · exact ⟨_, sf.h5, by intro c f h; cases h⟩
    refine At.retS rfl rfl rfl (kY.at bX (by omega)) rfl (by simpa using bY) ⟨kt.new hk2 (by omega), .inr ⟨(r, dl, forget fs), a21, dv, fs, by rw [hst, ← hp]; exact if_pos ho5, by omega, rfl, rfl, sf.hf.kt hk2 (fun h => by rcases h with h | h; exact sf.hf.1.ne_cells sf.h4 h; exact sf.hf.1.ne_cells sf.h5 h) hS2, sl_kt sf.hd hk2 hS2⟩⟩

end Go.Proofs.YtlcgeepjekcfgaaGreat
