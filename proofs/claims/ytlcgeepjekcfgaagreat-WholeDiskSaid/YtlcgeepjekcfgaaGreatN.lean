/- The range over a function: the statement, its rounds, the way out of a function that holds one; functions with deferred calls. -/
import Derived.Test.YtlcgeepjekcfgaaGreatM
namespace Go.Proofs.YtlcgeepjekcfgaaGreat
open Go.RowKit
set_option linter.unusedVariables false
set_option linter.unusedSimpArgs false

/-- A loop's record, ready. -/
def rfRec (fn : FuncId) (tmps : Array Value) (ps : Array Tmp) (assign body : Code) (b : Nat) : Loop := { state := .ready, pending := none, fn, tmps, params := ps, assign, body, defers := b }
def rfW (w : World) (fn : FuncId) (tmps : Array Value) (ps : Array Tmp) (assign body : Code) : World := (w.alloc (.deferred (some []))).alloc (.loop (rfRec fn tmps ps assign body w.heap.size))
theorem rfW_kt (w : World) (fn : FuncId) (tmps : Array Value) (ps : Array Tmp) (assign body : Code) : Kt No w (rfW w fn tmps ps assign body) := (kt_alloc w _).no (kt_alloc _ _)
theorem rfW_loop (w : World) (fn : FuncId) (tmps : Array Value) (ps : Array Tmp) (assign body : Code) : (rfW w fn tmps ps assign body).heap[w.heap.size + 1]? = some (.loop (rfRec fn tmps ps assign body w.heap.size)) := by
  have := World.alloc_heap_new (w.alloc (.deferred (some []))) (.loop (rfRec fn tmps ps assign body w.heap.size))
  rw [World.size_alloc] at this
  exact this
theorem rfW_def (w : World) (fn : FuncId) (tmps : Array Value) (ps : Array Tmp) (assign body : Code) : (rfW w fn tmps ps assign body).heap[w.heap.size]? = some (.deferred (some [])) :=
  (kt_alloc (w.alloc (.deferred (some []))) (.loop (rfRec fn tmps ps assign body w.heap.size))).at0 (World.alloc_heap_new w _)
theorem rfW_size (w : World) (fn : FuncId) (tmps : Array Value) (ps : Array Tmp) (assign body : Code) : (rfW w fn tmps ps assign body).heap.size = w.heap.size + 2 := by simp [rfW]

def mk1 (b : Nat) : Deferred := { target := .collected b, args := #[] }
/-- How a function that was ranged over ends. -/
def RangeEnd (X : Cx) (Q : Exit → Act → World → Prop) (E : Env) (l : Nat) : Ending → World → Prop
  | .returned _, w => ∃ r : Loop, w.heap[l]? = some (.loop r) ∧ r.state = .ready ∧ r.pending = none ∧ At X Q .normal E (w.putObj l (.loop { r with state := .exhausted }))
  | .panicked c, w => At X Q (.panic c) E w
  | .outgrown, _ => False

theorem W.rangeFunc {N : Nat} {g : Operand} {ps : Array Tmp} {assign body : Code} {Q : Exit → Act → World → Prop} {E : Env} {w : World} {f : FuncId} {cap : Array Value} (hg : E.ev g = some (.func (.func f) #[] cap)) (hen : Enters P f)
    (h : ∀ (fn : FuncId) (tmps : Array Value) (r : Loop) (W0 : World), Fits ⟨none, N, []⟩ E ⟨tmps, []⟩ → r = rfRec fn tmps ps assign body w.heap.size → Kt No w W0 → W0.heap[w.heap.size + 1]? = some (.loop r) → W0.heap[w.heap.size]? = some (.deferred (some [])) → W0.heap.size = w.heap.size + 2 →
      Calls P f ((.func (.yield (w.heap.size + 1)) #[] #[]) :: cap.toList).toArray W0 (RangeEnd ⟨none, N, [mk1 w.heap.size]⟩ Q E (w.heap.size + 1))) :
    W ⟨none, N, []⟩ (.rangeFunc g ps assign body) Q E w := by
  intro a ha
  refine wpIn_rangeFunc ?_
  intro fn _
  have hev := ha.ev hg
  refine ⟨w.heap.size + 1, [mk1 w.heap.size], rfW w fn a.tmps ps assign body, { target := .fn (.func f) cap, args := #[.func (.yield (w.heap.size + 1)) #[] #[]] }, rfW w fn a.tmps ps assign body, f,
    ((.func (.yield (w.heap.size + 1)) #[] #[]) :: cap.toList).toArray, rfW w fn a.tmps ps assign body, run_enterLoop_outer fn a.tmps ps assign body, ?_, fun _ _ => trivial, ?_, wd_depth, ?_⟩
  · simp only [resolve, hev]
    simp [go_sem]
  · have e : #[Value.func (.yield (w.heap.size + 1)) #[] #[]] ++ cap = ((.func (.yield (w.heap.size + 1)) #[] #[]) :: cap.toList).toArray := by apply Array.toList_inj.1; simp
    have := hen ((.func (.yield (w.heap.size + 1)) #[] #[]) :: cap.toList).toArray (rfW w fn a.tmps ps assign body)
    simp only [invoke]
    rw [e]
    exact this
  · refine (callsIn_wide.2 (h fn a.tmps _ _ ⟨ha.size, rfl, ha.get⟩ rfl (rfW_kt w fn a.tmps ps assign body) (rfW_loop w fn a.tmps ps assign body) (rfW_def w fn a.tmps ps assign body) (rfW_size w fn a.tmps ps assign body))).mono ?_
    intro e w3 he
    have hX : Fits ⟨none, N, [mk1 w.heap.size]⟩ E { a with defers := [mk1 w.heap.size] ++ a.defers } := ⟨ha.size, by rw [ha.defers]; rfl, ha.get⟩
    cases e with
    | returned v =>
      obtain ⟨r, h1, h2, h3, h4⟩ := he
      refine ⟨none, _, ?_, h4 _ hX⟩
      rw [run_endLoop h1 (by rw [h2]; intro e; cases e), h3]
    | panicked c => exact he _ hX
    | outgrown => exact he.elim

/-- A round of a loop with two parameters. -/
theorem yield_at {N l s t b0 : Nat} {E : Env} {W0 : World} {fn : FuncId} {tmps : Array Value} {assign body : Code} {v u : Value} {R : Ending → World → Prop} {r : Loop} (hrec : r = rfRec fn tmps #[s, t] assign body b0) (hl : W0.heap[l]? = some (.loop r)) (hE : Fits ⟨none, N, []⟩ E ⟨tmps, []⟩)
    (hs : Nat.blt s N = true) (ht : Nat.blt t N = true)
    (h : W ⟨some l, N, []⟩ assign (Exit.then (fun a₁ w₁ => ∃ w₂, (Instr.beginRound l).run P w₁ = .ok () w₂ ∧ body.wpIn (Wd (some l)) 0 P (roundPost P l R) a₁ w₂) (fun _ _ _ => False)) ((t, u) :: (s, v) :: E) W0) : YieldAt (Wd none) 0 P l #[v, u] W0 R := by
  subst hrec
  have hy : (Instr.yield l #[v, u]).run P W0 = .ok (.round l fn ((tmps.setIfInBounds s v).setIfInBounds t u) assign body) W0 := by
    have := run_yield (P := P) (args := #[v, u]) hl rfl
    simpa [rfRec] using this
  refine ⟨_, _, _, _, hy, roundIn_of_wpIn trivial ?_⟩
  have h1 : Fits ⟨some l, N, []⟩ ((t, u) :: (s, v) :: E) { tmps := (tmps.setIfInBounds s v).setIfInBounds t u, defers := [] } := by
    have h0 : Fits ⟨some l, N, []⟩ E ⟨tmps, []⟩ := ⟨hE.size, rfl, hE.get⟩
    exact (h0.put hs (v := v)).put ht (v := u)
  exact h _ h1

theorem At.begin {X : Cx} {l : Nat} {body : Code} {R : Ending → World → Prop} {E : Env} {w : World} {r : Loop} (hX : X.ro = some l) (hl : w.heap[l]? = some (.loop r)) (hr : r.state = .ready) (h : W X body (roundPost P l R) E (w.putObj l (.loop { r with state := .busy }))) :
    At X (Exit.then (fun a₁ w₁ => ∃ w₂, (Instr.beginRound l).run P w₁ = .ok () w₂ ∧ body.wpIn (Wd (some l)) 0 P (roundPost P l R) a₁ w₂) (fun _ _ _ => False)) .normal E w := by
  intro a ha
  refine ⟨_, run_beginRound hl hr, ?_⟩
  have := h a ha
  rw [hX] at this
  exact this
theorem At.endRound {X : Cx} {l : Nat} {R : Ending → World → Prop} {E : Env} {w : World} {r : Loop} (hl : w.heap[l]? = some (.loop r)) (h : R (.returned (.bool true)) (w.putObj l (.loop { r with state := .ready, pending := none }))) : At X (roundPost P l R) .normal E w :=
  fun a ha => ⟨_, _, run_endRound none hl, h⟩

/-! ### Functions with a mark, or deferred calls -/
theorem enterM {f : FuncId} {fn : Func} {c : Code} {vs : List Value} {w : World} {R : Ending → World → Prop} (N : Nat) (hf : P.funcs[f]? = some fn) (hb : fn.body = some c) (hN : fn.ntmps = N) (hl : Nat.ble vs.length N = true)
    (h : W ⟨none, N, []⟩ c (bodyPostM (Wd none) 0 P fn R) (argEnv 0 vs) w) : Calls P f vs.toArray w R := by
  refine (callsIn_wide (n := 0)).1 (callsIn_of_wp_marks hf hb trivial ?_ rfl)
  rw [hN]
  exact h _ (fits_args vs N (by simpa using hl))

theorem At.retM {X : Cx} {fn : Func} {R : Ending → World → Prop} {E : Env} {w : World} {b : Nat} {v : Value} (hd : X.ds = [mk1 b]) (hb : w.heap[b]? = some (.deferred (some []))) (hr : ∀ a, Fits X E a → (results fn a.tmps).run P (w.putObj b (.deferred none)) = .ok v (w.putObj b (.deferred none)))
    (h : R (.returned v) (w.putObj b (.deferred none))) : At X (bodyPostM (Wd none) 0 P fn R) .ret E w := by
  intro a ha
  show LeavesInM (Wd none) 0 P fn a.tmps R a.defers .returning w
  rw [ha.defers, hd]
  exact ⟨(by intro e; cases e), .inl ⟨b, _, rfl, run_takeDeferred hb, _, hr a ha, h⟩⟩
theorem At.panM {X : Cx} {fn : Func} {R : Ending → World → Prop} {E : Env} {w : World} {b : Nat} {c : List PanicEntry} (hd : X.ds = [mk1 b]) (hb : w.heap[b]? = some (.deferred (some [])))
    (h : R (.panicked c) (w.putObj b (.deferred none))) : At X (bodyPostM (Wd none) 0 P fn R) (.panic c) E w := by
  intro a ha
  show LeavesInM (Wd none) 0 P fn a.tmps R a.defers (.panicking c) w
  rw [ha.defers, hd]
  exact ⟨(by intro e; cases e), .inl ⟨b, _, rfl, run_takeDeferred hb, h⟩⟩
theorem At.panM0 {X : Cx} {fn : Func} {R : Ending → World → Prop} {E : Env} {w : World} {c : List PanicEntry} (hd : X.ds = []) (h : R (.panicked c) w) : At X (bodyPostM (Wd none) 0 P fn R) (.panic c) E w := by
  intro a ha
  show LeavesInM (Wd none) 0 P fn a.tmps R a.defers (.panicking c) w
  rw [ha.defers, hd]
  exact h
end Go.Proofs.YtlcgeepjekcfgaaGreat
