/- The deferred call of stateOf. -/
import Derived.Test.YtlcgeepjekcfgaaGreatO
import Derived.RecoverIn
namespace Go.Proofs.YtlcgeepjekcfgaaGreat
open Go.RowKit
set_option linter.unusedVariables false
set_option linter.unusedSimpArgs false


theorem enterD {f : FuncId} {fn : Func} {rest : Code} {N d d2 id : Nat} {ty ty2 : TypeId} {pos pos2 : String} {aft aft2 : Array Edge} {vs : List Value} {u u' : FrameMode} {v : Value} {w : World} {R : Ending → FrameMode → World → Prop} (hf : P.funcs[f]? = some fn)
    (hb : fn.body = some (.seq (.region id #[⟨some d, .call { callee := .builtin .recover, args := #[], argTypes := #[] }, ty, pos, aft, none⟩, ⟨some d2, .assign (.tmp d), ty2, pos2, aft2, none⟩] false) rest)) (hN : fn.ntmps = N) (hl : Nat.ble vs.length N = true) (hd : Nat.blt d N = true) (hd2 : Nat.blt d2 N = true) (hres : fn.results = #[])
    (hrec : ∀ (c₀ : Frame) (cs : List Frame), c₀.mode = u → recoverD (c₀ :: cs) = some (v, { c₀ with mode := u' } :: cs) ∨ recoverD (c₀ :: cs) = none ∧ v = .nilIface ∧ u' = u)
    (h : ∀ Q', (∀ a w, a.defers = [] → R (.returned (.tuple #[])) u' w → Q' .normal a w) → W ⟨none, N, []⟩ rest Q' ((d2, v) :: (d, v) :: argEnv 0 vs) w) : CallsDIn (Wd none) 0 P f vs.toArray u w R := by
  refine callsDIn_of_wpSIn hf hb trivial ?_
  intro c₀ cs hu
  refine wpSIn_seq ?_
  refine wpSIn_region ?_
  have ha := fits_args vs N (by simpa using hl)
  rw [hN]
  obtain ⟨a0, ha0⟩ : ∃ a0 : Act, a0 = { tmps := vs.toArray ++ Array.replicate (N - vs.toArray.size) undef, defers := [] } := ⟨_, rfl⟩
  rw [← ha0] at ha ⊢
  have e2 : List.range (Array.size #[(⟨some d, .call { callee := .builtin .recover, args := #[], argTypes := #[] }, ty, pos, aft, none⟩ : Oper), ⟨some d2, .assign (.tmp d), ty2, pos2, aft2, none⟩]) = [0, 1] := rfl
  rw [e2]
  have hw : ∀ (o : Oper) t, o.guard = none → Region.wanted o t = true := fun o t ho => by simp [Region.wanted, ho]
  have key : ∀ cs' , cs' = { c₀ with mode := u' } :: cs → wpOpsSIn (Wd none) 0 P #[(⟨some d, .call { callee := .builtin .recover, args := #[], argTypes := #[] }, ty, pos, aft, none⟩ : Oper), ⟨some d2, .assign (.tmp d), ty2, pos2, aft2, none⟩] (Exit.thenS (rest.wpSIn (Wd none) 0 P (bodyPostS P fn c₀ cs R)) (bodyPostS P fn c₀ cs R)) [1] (a0.put (some d) v) cs' w := by
    rintro cs' rfl
    have hX := ha.put (X := ⟨none, N, []⟩) hd (v := v)
    have hev : (a0.put (some d) v).eval (.tmp d) = v := hX.ev (by show Env.get? _ _ = _; unfold Env.get?; simp)
    show _ ∧ _
    refine ⟨fun _ _ => trivial, ?_⟩
    rw [if_pos (hw _ _ rfl)]
    have hrun : (execOp (a0.put (some d) v).eval ⟨some d2, .assign (.tmp d), ty2, pos2, aft2, none⟩).run P w = .ok (.value v) w := by
      show Sem.run P (pure (Next.value ((a0.put (some d) v).eval (.tmp d)))) w = _
      rw [hev]; rfl
    simp only [List.getElem_toArray, List.getElem_cons_succ, List.getElem_cons_zero]
    rw [hrun]
    show wpOpsSIn _ _ _ _ _ [] _ _ _
    refine wpSIn_of_wpIn rfl ?_
    refine h _ ?_ _ (hX.put hd2 (v := v))
    intro a w2 hds hR
    exact ⟨hds, u', rfl, _, by rw [results_none hres], hR⟩
  show _ ∧ _
  refine ⟨fun _ _ => trivial, ?_⟩
  rw [if_pos (hw _ _ rfl)]
  have hrun : (execOp a0.eval ⟨some d, .call { callee := .builtin .recover, args := #[], argTypes := #[] }, ty, pos, aft, none⟩).run P w = .ok .recover w := by
    simp [execOp, resolve, invoke, builtin]
  simp only [List.getElem_toArray, List.getElem_cons_succ, List.getElem_cons_zero]
  rw [hrun]
  rcases hrec c₀ cs hu with hr | ⟨hr, rfl, rfl⟩
  · simp only [hr]
    exact key _ rfl
  · simp only [hr]
    refine key _ ?_
    rw [← hu]

section
variable {X : Cx} {E : Env} {w : World} {ty : TypeId}
theorem Ev.inil {x y : Operand} {p : Value} {b : Bool} {xc : Value} (hx : E.ev x = some p) (hy : y = .const .nilIface) (h : (p = .nilIface ∧ b = false) ∨ (∃ t a, p = .iface t a) ∧ b = true) : Ev X (.binOp .neq 20 x y 20) ty E w (.bool b) w :=
  ⟨(by intro c e; cases e), fun a ha d pos aft g => by
    subst hy
    have h1 : ∀ d : Nat, (Op.equalIn (d + 1) 20 p .nilIface).run P w = .ok (!b) w := fun d => by
      rcases h with ⟨rfl, rfl⟩ | ⟨⟨t, q, rfl⟩, rfl⟩ <;> simp [Op.equalIn, run_underlying Tryz.underlying20]
    have h2 : (binOp .neq 20 p .nilIface).run P w = .ok (.bool b) w := by
      rcases h with ⟨rfl, rfl⟩ | ⟨⟨t, q, rfl⟩, rfl⟩ <;> simp only [binOp] <;> simp [Op.equal, Op.maxDepth, h1 9999]
    have h3 : (eqGuard .neq 20 x (.const .nilIface) p .nilIface).run P w = .ok () w := by
      rcases h with ⟨rfl, rfl⟩ | ⟨⟨t, q, rfl⟩, rfl⟩ <;> simp [eqGuard]
    have h4 : a.eval (.const .nilIface) = .nilIface := rfl
    simp [execOp, ha.ev hx, h4, h2, h3]⟩
theorem Ev.tassert {x : Operand} {v : Value} (hx : E.ev x = some (.iface 82 v)) : Ev X (.typeAssert x 20 82 true) ty E w (.tuple #[v, .bool true]) w :=
  ⟨(by intro c e; cases e), fun a ha d pos aft g => by simp [execOp, ha.ev hx, Instr.typeAssert, run_underlying Tryz.underlying82]⟩
end
theorem rec_ret (c₀ : Frame) (cs : List Frame) (h : c₀.mode = .returning) : recoverD (c₀ :: cs) = none := by simp [recoverD, h]
theorem rec_brk (c₀ : Frame) (cs : List Frame) (h : c₀.mode = .panicking brk) : recoverD (c₀ :: cs) = some (.iface 82 (.agg #[]), { c₀ with mode := .panicking [{ v := .iface 82 (.agg #[]), recovered := true }] } :: cs) := by simp [recoverD, h, brk]


theorem over6 {cs : Array Value} (h : cs.size = 6) {a b c d e f : Value} : over cs 0 [a, b, c, d, e, f] = #[a, b, c, d, e, f] := by
  obtain ⟨l⟩ := cs
  match l, h with
  | [x1, x2, x3, x4, x5, x6], _ => rfl

theorem st1_ret (p q : Value) (w : World) : CallsDIn (Wd none) 0 P 36 [p, q].toArray .returning w (fun e u' w' => e = .returned (.tuple #[]) ∧ u' = .returning ∧ w' = w) := by
  refine enterD Tryz.func36 rfl rfl rfl rfl rfl rfl (fun c₀ cs h => .inr ⟨rec_ret c₀ cs h, rfl, rfl⟩) (fun Q' hQ => ?_)
  refine W.seq ?_
  -- region 1 (layout.go:165)
  refine W.region ?_
  refine Run.ev (Ev.move rfl) rfl rfl ?_   -- t6
  refine Run.ev (Ev.inil (xc := .nilIface) rfl rfl (.inl ⟨rfl, rfl⟩)) rfl rfl ?_   -- t7
  refine Run.nil ?_
  refine At.then ?_
  refine W.cond_f rfl ?_
  refine W.skip ?_
  exact fun a ha => hQ a _ ha.defers ⟨rfl, rfl, rfl⟩

theorem st1_brk (a b : Nat) (cs : Array Value) (v0 : Value) (w : World) (ha : w.heap[a]? = some (.cells cs 50 (0, 0))) (hcs : cs.size = 6) (hb : w.heap[b]? = some (.cells #[v0] 4 (0, 0))) (hab : a ≠ b) : CallsDIn (Wd none) 0 P 36 [.pointer (some ⟨a, 0, none⟩), .pointer (some ⟨b, 0, none⟩)].toArray (.panicking brk) w (fun e u' w' => e = .returned (.tuple #[]) ∧ u' = .panicking [{ v := .iface 82 (.agg #[]), recovered := true }] ∧ Kt (fun i => i = a ∨ i = b) w w' ∧ w'.heap[a]? = some (.cells #[natv 0, natv 0, natv 0, natv 0, .map none, .slice none 0 0] 50 (0, 0)) ∧ w'.heap[b]? = some (.cells #[.bool false] 4 (0, 0))) := by
  refine enterD Tryz.func36 rfl rfl rfl rfl rfl rfl (fun c₀ cs h => .inl (rec_brk c₀ cs h)) (fun Q' hQ => ?_)
  refine W.seq ?_
  -- region 1 (layout.go:165)
  refine W.region ?_
  refine Run.ev (Ev.move rfl) rfl rfl ?_   -- t6
  refine Run.ev (Ev.inil (xc := .nilIface) rfl rfl (.inr ⟨⟨_, _, rfl⟩, rfl⟩)) rfl rfl ?_   -- t7
  refine Run.nil ?_
  refine At.then ?_
  refine W.cond_t rfl ?_
  refine W.seq ?_
  refine W.seq ?_
  -- region 2 (layout.go:166)
  refine W.region ?_
  refine Run.ev (Ev.move rfl) rfl rfl ?_   -- t9
  refine Run.ev (Ev.tassert rfl) rfl rfl ?_   -- t10
  refine Run.ev (Ev.move rfl) rfl rfl ?_   -- t8
  refine Run.ev (Ev.extract rfl rfl) rfl rfl ?_   -- t11
  refine Run.ev (Ev.extract rfl rfl) rfl rfl ?_   -- t12
  refine Run.step rfl (Stp.alloc zc_82 rfl ?_)   -- t3
  intro a3 w3 e3 k3 b3 z3
  refine Run.step rfl (Stp.storeA (vs := []) ag_82 rfl rfl rfl (by simp) b3 (by simp) ?_)   -- tNone
  intro wS kS bS zS
  have ha2 := kS.at (k3.at0 ha) (by have := blk_lt ha; omega)
  have hb2 := kS.at (k3.at0 hb) (by have := blk_lt hb; omega)
  refine Run.ev (Ev.assign rfl) rfl rfl ?_   -- t4
  refine Run.nil ?_
  refine At.then ?_
  refine W.seq ?_
  -- region 3 (layout.go:166)
  refine W.region ?_
  refine Run.ev (Ev.move rfl) rfl rfl ?_   -- t13
  refine Run.ev (Ev.not rfl) rfl rfl ?_   -- t14
  refine Run.nil ?_
  refine At.then ?_
  refine W.cond_f rfl ?_
  refine W.skip ?_
  refine At.then ?_
  -- region 5 (layout.go:169)
  refine W.region ?_
  refine Run.ev (Ev.build (vs := []) (v := .agg #[natv 0, natv 0, natv 0, natv 0, .map none, .slice none 0 0]) rfl rfl (by kernel_rfl)) rfl rfl ?_   -- t16
  refine Run.step rfl (Stp.storeA ag_50 rfl rfl rfl (by simp [natv, Value.oneCell']) ha2 (by omega) ?_)   -- tNone
  intro wT kT bT zT
  refine Run.step rfl (Stp.store sc_4 sz_4 rfl rfl rfl (kT.at hb2 (Ne.symm hab)) (by simp) ?_)   -- tNone
  intro wU kU bU zU
  refine Run.nil ?_
  refine fun x hx => hQ x _ hx.defers ⟨rfl, rfl, ?_, ?_, by simpa using bU⟩
  · exact ((((Kt.refl _ w).no k3).new kS (by rintro i rfl; omega)).trans kT (fun i _ h => .inl h)).trans kU (fun i _ h => .inr h)
  · rw [kU.at bT hab, over6 hcs]

end Go.Proofs.YtlcgeepjekcfgaaGreat
