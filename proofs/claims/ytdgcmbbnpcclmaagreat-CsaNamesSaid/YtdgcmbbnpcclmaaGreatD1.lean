/- The evaluator AM: calls are sound. -/
import Derived.Test.YtdgcmbbnpcclmaaGreatD0
import Derived.Calls
set_option linter.unusedVariables false
set_option linter.unusedSimpArgs false
namespace Go.AM

/-- How a call ends. -/
def Ret (w : World) (I : Nat → Prop) (φ : Phi) (h : Heap) (v : AV) (h' : Heap) : Ending → World → Prop
  | .returned u, w' => ∃ I' φ', VRep w' I' φ' v u ∧ Sim w' I' φ' h' ∧ Ext w I φ h w' I' φ' h'
  | _, _ => False

def ARep (w : World) (I : Nat → Prop) (φ : Phi) (args : List AV) (cargs : Array Value) : Prop :=
  cargs.size = args.length ∧ ∀ (i : Nat) x, args[i]? = some x → VRep w I φ x (cargs.getD i _root_.Go.undef)

def CallOK (P : Program) (call : CallFn) : Prop := ∀ f args h n v h' n', call f args h n = some (v, h', n') → (∃ fn, bodied P f = some fn) ∧
  ∀ w I φ (cargs : Array Value), Sim w I φ h → ARep w I φ args cargs → Calls P f cargs w (Ret w I φ h v h')

section
variable {E : Env} {P : Program} {w : World} {I : Nat → Prop} {φ : Phi} {h h' : Heap} {id : Nat} {t : Tmps} {a : Act} {v : AV}

theorem flat_rep {w' : World} {I' : Nat → Prop} {φ' : Phi} : ∀ (n : Nat) (v : AV) (u : Value), flat n v = true → VRep w I φ v u → VRep w' I' φ' v u
  | 0, _, _, e, _ => by simp [flat] at e
  | n + 1, v, u, e, r => by
    have ih := flat_rep (w' := w') (I' := I') (φ' := φ') n
    unfold flat at e
    cases v with
    | bool b => cases r; exact .bool _
    | int k m => cases r; exact .int _ _
    | str s => cases r with | str s hs => exact .str s hs
    | nilptr => cases r; exact .nilptr
    | nilsl => cases r; exact .nilsl
    | nilmap => cases r; exact .nilmap
    | nilfunc => cases r; exact .nilfunc
    | niliface => cases r; exact .niliface
    | iface ty x => cases r with | iface r => exact .iface (ih _ _ e r)
    | agg cs =>
      simp only at e
      cases r with
      | agg va a1 a2 => exact .agg va a1 (fun i x hx => ih _ _ (List.all_eq_true.1 e x (List.mem_of_getElem? hx)) (a2 i x hx))
    | tuple cs =>
      simp only at e
      cases r with
      | any => exact .any
      | tuple va a1 a2 => exact .tuple va a1 (fun i x hx => ih _ _ (List.all_eq_true.1 e x (List.mem_of_getElem? hx)) (a2 i x hx))
    | _ => cases e

theorem Sim.empty (hI : ∀ cb, I cb → cb < w.heap.size) : Sim w I noPhi .empty where
  dom := fun b p e => by cases e
  pl := fun b x e => by rw [show Heap.get Heap.empty b = none from Heap.get_empty b] at e; cases e
  rep := fun b x p e => by rw [show Heap.get Heap.empty b = none from Heap.get_empty b] at e; cases e
  own := fun cb ⟨b, x, p, e, _⟩ => by rw [show Heap.get Heap.empty b = none from Heap.get_empty b] at e; cases e
  inj := fun b b' x x' p p' e => by rw [show Heap.get Heap.empty b = none from Heap.get_empty b] at e; cases e
  imm := hI

theorem not_owned_empty {cb : Nat} : ¬ Owned φ Heap.empty cb := fun ⟨b, x, p, e, _⟩ => by rw [show Heap.get Heap.empty b = none from Heap.get_empty b] at e; cases e

/-- The caller's heap stands as it stood, behind a call that sees none of it. -/
theorem Sim.past {w' : World} {I' I1 I2 : Nat → Prop} {φ2 : Phi} {h2 : Heap} (S : Sim w I φ h) (X : Ext w I1 noPhi .empty w' I2 φ2 h2) (hI : ∀ cb, I cb → I' cb)
    (old : ∀ cb, I' cb → cb < w.heap.size → I cb) (hlt : ∀ cb, I' cb → cb < w'.heap.size) : Sim w' I' φ h ∧ Ext w I φ h w' I' φ h := by
  have same : ∀ cb, cb < w.heap.size → w'.heap[cb]? = w.heap[cb]? := fun cb hc => X.frame cb hc not_owned_empty
  refine ⟨⟨S.dom, S.pl, fun b x p e1 e2 => ?_, fun cb o => ⟨fun e => (S.own cb o).1 (old cb e (S.own cb o).2), Nat.lt_of_lt_of_le (S.own cb o).2 X.size⟩, S.inj, hlt⟩,
    ⟨X.os, X.tape, X.output, X.size, fun _ _ e => e, hI, fun cb e => same cb (S.imm cb e), fun cb hc _ => same cb hc, fun _ o _ => o, fun cb e hc => .inl (old cb e hc), X.fz⟩⟩
  exact (S.rep b x p e1 e2).mono (fun _ _ e => e) hI (fun cb e => same cb (S.imm cb e)) (fun hw => same _ (S.own _ ⟨b, x, p, e1, hw, e2, rfl⟩).2)

theorem docall_ok {call : CallFn} (hc : CallOK P call) : CallOK P (docall E call) := by
  intro f args h n v h' n' e
  unfold docall at e
  cases hs : E.shared f with
  | true => rw [hs] at e; exact hc f args h n v h' n' e
  | false =>
    rw [hs] at e
    simp only [cond_false] at e
    split at e
    · rename_i args' h1 h2
      split at e
      · rename_i v' hv
        cases e
        unfold pureCall at hv
        split at hv
        · rename_i x hx nx hcall
          split at hv
          · rename_i y hy hfr
            cases hv
            obtain ⟨hb, hcalls⟩ := hc _ _ _ _ _ _ _ hcall
            refine ⟨hb, fun w I φ cargs S A => ?_⟩
            obtain ⟨I1, f1, l1, r1, _⟩ := (frz_all E.fuel).all I h h1 args args' (fun i => cargs.getD i _root_.Go.undef) S A.2 h2
            refine (hcalls w I1 noPhi cargs (Sim.empty f1.sim.imm) ⟨A.1.trans l1.symm, r1⟩).mono ?_
            intro e w' he
            cases e with
            | returned u =>
              obtain ⟨I2, φ2, r2, S2, X2⟩ := he
              obtain ⟨I3, f3, r3, _⟩ := (frz_all E.fuel).one I2 hx hy x v u S2 r2 hfr
              have X3 := X2.trans f3.ext
              cases hfl : flat E.fuel v with
              | true =>
                obtain ⟨S4, X4⟩ := Sim.past S X3 (fun _ e => e) (fun _ e _ => e) (fun cb e => Nat.lt_of_lt_of_le (S.imm cb e) X3.size)
                exact ⟨I, φ, flat_rep _ _ _ hfl r3, S4, X4⟩
              | false =>
                obtain ⟨S4, X4⟩ := Sim.past f1.sim X3 X3.imm (fun cb e hc => (X3.new cb e hc).resolve_right not_owned_empty) f3.sim.imm
                exact ⟨I3, φ, r3.of_tree, S4, f1.ext.trans X4⟩
            | panicked c => exact he.elim
            | outgrown => exact he.elim
          · cases hv
        · cases hv
      · cases e
    · cases e

theorem ARep.append {xs ys : List AV} {va vb : Array Value} (r1 : ARep w I φ xs va) (r2 : ARep w I φ ys vb) : ARep w I φ (xs ++ ys) (va ++ vb) := by
  refine ⟨by simp [r1.1, r2.1], fun i x e => ?_⟩
  rw [List.getElem?_append] at e
  rw [Array.getD_eq_getD_getElem?, Array.getElem?_append]
  by_cases hi : i < xs.length
  · rw [if_pos hi] at e
    rw [if_pos (by rw [r1.1]; exact hi), ← Array.getD_eq_getD_getElem?]; exact r1.2 i x e
  · rw [if_neg hi] at e
    rw [if_neg (by rw [r1.1]; exact hi), ← Array.getD_eq_getD_getElem?, r1.1]; exact r2.2 _ x e

theorem callFunc_run {f : FuncId} {fn : Func} {cargs : Array Value} (hb : bodied P f = some fn) : (callFunc f cargs).run P w = .ok (.enter f cargs) w := by
  unfold bodied at hb
  split at hb
  · rename_i fn' hf
    split at hb
    · rename_i c hc
      cases hn : (fn'.name != "runtime.NumGoroutine" && dstOk fn'.ntmps c) with
      | false => rw [hn] at hb; cases hb
      | true =>
        simp only [Bool.and_eq_true, bne_iff_ne, ne_eq] at hn
        unfold callFunc
        simp [hf, hn.1, hc]
    · cases hb
  · cases hb

theorem callee_ok (hE : EnvOK E P) {c : Call} {o : Oper} {f : FuncId} {fn : Func} {args : List AV} (ht : TRep w I φ t a.tmps) (ho : o.op = .call c)
    (hc : callee E t c = some (f, args)) (hb : bodied P f = some fn) : ∃ cargs, (execOp a.eval o).run P w = .ok (.enter f cargs) w ∧ ARep w I φ args cargs := by
  unfold callee at hc
  split at hc
  · cases hc
  · rename_i vs hvs
    have hargs : ARep w I φ vs (c.args.map a.eval) := evalAll_arr ht hvs
    split at hc
    · rename_i fo hcal
      split at hc
      · rename_i g first captured hg
        cases hc
        have hv := evalOp_rep ht hg
        generalize hx : a.eval fo = cf at hv
        cases hv with
        | func va vb a1 a2 a3 a4 =>
          refine ⟨va ++ c.args.map a.eval ++ vb, ?_, ?_⟩
          · simp only [execOp, ho, resolve, hcal, hx, Deferred.ofValue, Sem.run_bind, Sem.run_pure, Result.andThen_ok, invoke, callFunc_run hb]
          · rw [← List.append_assoc]
            exact ARep.append (ARep.append ⟨a1, a3⟩ hargs) ⟨a2, a4⟩
      · cases hc
    · rename_i ro m hcal
      split at hc
      · rename_i ty x hx
        split at hc
        · rename_i g hm
          cases hc
          have hv := evalOp_rep ht hx
          generalize hx : a.eval ro = cf at hv
          cases hv with
          | iface hv =>
            rename_i u
            refine ⟨#[u] ++ c.args.map a.eval, ?_, ?_⟩
            · have hmm := hE.meth _ _ _ hm
              unfold methOf at hmm
              split at hmm
              · rename_i i hi
                split at hmm
                · rename_i mm hfind
                  split at hmm
                  · rename_i g' e h1 h2
                    cases hp : mm.path.isEmpty with
                    | false => rw [hp] at hmm; cases hmm
                    | true =>
                      rw [hp] at hmm
                      cases hmm
                      have hpath : mm.path.toList = [] := by simpa using hp
                      have hmeth : (method (P.types.size + Made.depth) ty u m).run P w = .ok (f, u) w := by
                        have hd : P.types.size + Made.depth = (P.types.size + 99) + 1 := rfl
                        rw [hd]
                        unfold method
                        simp [typeInfo_run hi, hfind, hpath, follow, h1, receiverAt, run_underlying h2, Place.get]
                      have hex : ∀ y : Value, (#[y] ++ c.args.map a.eval).extract 1 = c.args.map a.eval := by
                        intro y
                        apply Array.ext'
                        simp [List.take_of_length_le]
                      have h0 : ∀ y : Value, (#[y] ++ c.args.map a.eval)[0]? = some y := by intro y; rw [Array.getElem?_append_left (by simp)]; rfl
                      simp only [execOp, ho, resolve, hcal, Sem.run_bind, Sem.run_pure, Result.andThen_ok, invoke, h0, hex, hx, callMethod, run_program, hmeth, callFunc_run hb]
                  · cases hmm
                · cases hmm
              · cases hmm
            · exact ARep.append (xs := [x]) ⟨rfl, fun i y e => by cases i with | zero => cases e; exact hv | succ i => simp at e⟩ hargs
        · cases hc
      · cases hc
    · cases hc
end
end Go.AM
