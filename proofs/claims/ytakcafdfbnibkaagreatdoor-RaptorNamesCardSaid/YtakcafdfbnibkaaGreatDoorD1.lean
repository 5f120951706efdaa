/- The evaluator AM: calls are sound. -/
import Derived.Test.YtakcafdfbnibkaaGreatDoorD0
import Derived.Calls
set_option linter.unusedVariables false
set_option linter.unusedSimpArgs false
namespace Go.AM

/-- How a call ends. -/
def Ret (w : World) (I : Nat → Prop) (φ : Phi) (h : Heap) (v : AV) (h' : Heap) : Ending → World → Prop
  | .returned u, w' => ∃ I' φ', VRep w' I' φ' v u ∧ Sim w' I' φ' h' ∧ Ext w I φ h w' I' φ' h'
  | _, _ => False

def ARep (w : World) (I : Nat → Prop) (φ : Phi) (args : List AV) (cargs : Array Value) : Prop :=
  cargs.size = args.length ∧ ∀ (i : Nat) x, args[i]? = some x → VRep w I φ x (cargs.getD i _root_.Go.undef)

def CallOK (P : Program) (call : CallFn) : Prop := ∀ f args h n v h' n', call f args h n = some (v, h', n') → (∃ fn, bodied P f = some fn) ∧
  ∀ w I φ (cargs : Array Value), Sim w I φ h → ARep w I φ args cargs → Calls P f cargs w (Ret w I φ h v h')

section
variable {E : Env} {P : Program} {w : World} {I : Nat → Prop} {φ : Phi} {h h' : Heap} {id : Nat} {t : Tmps} {a : Act} {v : AV}

theorem flat_rep {w' : World} {I' : Nat → Prop} {φ' : Phi} : ∀ (n : Nat) (v : AV) (u : Value), flat n v = true → VRep w I φ v u → VRep w' I' φ' v u
  | 0, _, _, e, _ => by simp [flat] at e
  | n + 1, v, u, e, r => by
    have ih := flat_rep (w' := w') (I' := I') (φ' := φ') n
    unfold flat at e
    cases v with
    | bool b => cases r; exact .bool _
    | int k m => cases r; exact .int _ _
    | str s => cases r with | str s hs => exact .str s hs
    | nilptr => cases r; exact .nilptr
    | nilsl => cases r; exact .nilsl
    | nilmap => cases r; exact .nilmap
    | nilfunc => cases r; exact .nilfunc
    | niliface => cases r; exact .niliface
    | iface ty x => cases r with | iface r => exact .iface (ih _ _ e r)
    | agg cs =>
      simp only at e
      cases r with
      | agg va a1 a2 => exact .agg va a1 (fun i x hx => ih _ _ (List.all_eq_true.1 e x (List.mem_of_getElem? hx)) (a2 i x hx))
    | tuple cs =>
      simp only at e
      cases r with
      | any => exact .any
      | tuple va a1 a2 => exact .tuple va a1 (fun i x hx => ih _ _ (List.all_eq_true.1 e x (List.mem_of_getElem? hx)) (a2 i x hx))
    | _ => cases e

theorem Sim.empty (hI : ∀ cb, I cb → cb < w.heap.size) (hg : GlobOK w I) : Sim w I noPhi .empty where
  dom := fun b p e => by cases e
  pl := fun b x e => by rw [show Heap.get Heap.empty b = none from Heap.get_empty b] at e; cases e
  rep := fun b x p e => by rw [show Heap.get Heap.empty b = none from Heap.get_empty b] at e; cases e
  own := fun cb ⟨b, x, p, e, _⟩ => by rw [show Heap.get Heap.empty b = none from Heap.get_empty b] at e; cases e
  inj := fun b b' x x' p p' e => by rw [show Heap.get Heap.empty b = none from Heap.get_empty b] at e; cases e
  imm := hI
  glob := hg

theorem not_owned_empty {cb : Nat} : ¬ Owned φ Heap.empty cb := fun ⟨b, x, p, e, _⟩ => by rw [show Heap.get Heap.empty b = none from Heap.get_empty b] at e; cases e

/-- The caller's heap stands as it stood, behind a call that sees none of it. -/
theorem Sim.past {w' : World} {I' I1 I2 : Nat → Prop} {φ2 : Phi} {h2 : Heap} (S : Sim w I φ h) (X : Ext w I1 noPhi .empty w' I2 φ2 h2) (hI : ∀ cb, I cb → I' cb)
    (old : ∀ cb, I' cb → cb < w.heap.size → I cb) (hlt : ∀ cb, I' cb → cb < w'.heap.size) : Sim w' I' φ h ∧ Ext w I φ h w' I' φ h := by
  have same : ∀ cb, cb < w.heap.size → w'.heap[cb]? = w.heap[cb]? := fun cb hc => X.frame cb hc not_owned_empty
  refine ⟨⟨S.dom, S.pl, fun b x p e1 e2 => ?_, fun cb o => ⟨fun e => (S.own cb o).1 (old cb e (S.own cb o).2), Nat.lt_of_lt_of_le (S.own cb o).2 X.size⟩, S.inj, hlt, S.glob.mono hI (fun cb o e => cell_of_heap (same cb (S.imm cb e)) o)⟩,
    ⟨X.os, X.tape, X.output, X.size, fun _ _ e => e, hI, fun cb e => same cb (S.imm cb e), fun cb hc _ => same cb hc, fun _ o _ => o, fun cb e hc => .inl (old cb e hc), X.fz⟩⟩
  exact (S.rep b x p e1 e2).mono (fun _ _ e => e) hI (fun cb e => same cb (S.imm cb e)) (fun hw => same _ (S.own _ ⟨b, x, p, e1, hw, e2, rfl⟩).2)

theorem subHeap_get : ∀ (h h' : T Blk), subHeap h h' = true → ∀ p x, T.get p h = some x → T.get p h' = some x
  | .nil, _, _, p, x, e => by rw [T.get_nil] at e; cases e
  | .node l v r, .node l' v' r', hs, p, x, e => by
    simp only [subHeap, Bool.and_eq_true] at hs
    cases p with
    | nil =>
      rw [T.get_node_nil] at e ⊢
      subst e
      have h1 := hs.1.1
      simp only at h1
      cases v' with
      | none => cases h1
      | some y => rw [sameBlk_eq _ _ h1]
    | cons b p =>
      rw [T.get_node_cons] at e ⊢
      cases b with
      | false => exact subHeap_get l l' hs.1.2 p x e
      | true => exact subHeap_get r r' hs.2 p x e
  | .node l v r, .nil, hs, p, x, e => by simp [subHeap] at hs

theorem VRep.back {w w' : World} {I I' : Nat → Prop} {φ : Phi} {x : AV} {u0 : Value} (r0 : VRep w I φ x u0) :
    ∀ {φ' : Phi} {u : Value}, (∀ b p, φ b = some p → φ' b = some p) → VRep w' I' φ' x u → VRep w' I' φ x u := by
  induction r0 with
  | any => intro φ' u _ r; cases r with
    | any => exact .any
    | tuple va h1 h2 => exact .tuple va h1 (fun i x e => by simp at e)
  | bool b => intro φ' u _ r; cases r; exact .bool _
  | int k n => intro φ' u _ r; cases r; exact .int _ _
  | str s e => intro φ' u _ r; cases r with | str s e => exact .str s e
  | nilptr => intro φ' u _ r; cases r; exact .nilptr
  | ptr hp => intro φ' u hs r; cases r with | ptr hp' => rw [hs _ _ hp] at hp'; cases hp'; exact .ptr hp
  | iptr f hl hc h1 ih => intro φ' u hs r; cases r with | iptr g a b c => exact .iptr g a b c
  | nilsl => intro φ' u _ r; cases r; exact .nilsl
  | sl hp h0 h1 h2 h3 h4 h5 h6 => intro φ' u hs r; cases r with | sl hp' g0 g1 g2 g3 g4 g5 g6 => rw [hs _ _ hp] at hp'; cases hp'; exact .sl hp g0 g1 g2 g3 g4 g5 g6
  | isl f hl hc h1 h2 h3 h4 h5 ih => intro φ' u hs r; cases r with | isl g a b c d e f' g' => exact .isl g a b c d e f' g'
  | nilmap => intro φ' u _ r; cases r; exact .nilmap
  | map hp => intro φ' u hs r; cases r with | map hp' => rw [hs _ _ hp] at hp'; cases hp'; exact .map hp
  | func va vb h1 h2 h3 h4 ih1 ih2 => intro φ' u hs r; cases r with | func va' vb' g1 g2 g3 g4 => exact .func va' vb' g1 g2 (fun i x e => ih1 i x e hs (g3 i x e)) (fun i x e => ih2 i x e hs (g4 i x e))
  | nilfunc => intro φ' u _ r; cases r; exact .nilfunc
  | iface _ ih => intro φ' u hs r; cases r with | iface r => exact .iface (ih hs r)
  | niliface => intro φ' u _ r; cases r; exact .niliface
  | agg va h1 _ ih => intro φ' u hs r; cases r with | agg va' g1 g2 => exact .agg va' g1 (fun i x e => ih i x e hs (g2 i x e))
  | tuple va h1 _ ih => intro φ' u hs r; cases r with
    | tuple va' g1 g2 => exact .tuple va' g1 (fun i x e => ih i x e hs (g2 i x e))
    | any => exact .any

theorem BRep.back {w w' : World} {I I' : Nat → Prop} {φ φ' : Phi} {p : Pl} {x : Blk} (r0 : BRep w I φ p x) (hs : ∀ b q, φ b = some q → φ' b = some q) (r : BRep w' I' φ' p x) : BRep w' I' φ p x := by
  cases x with
  | cells s k rows =>
    obtain ⟨_, _, _, _, _, cc0, el0, _, _, b8⟩ := r0
    obtain ⟨a1, a2, a3, a4, a5, cc, el, a6, a7, a8⟩ := r
    exact ⟨a1, a2, a3, a4, a5, cc, el, a6, a7, fun i j c e => by
      obtain ⟨_, v0, _, q0⟩ := b8 i j c e
      obtain ⟨q1, v, q2, q3⟩ := a8 i j c e
      exact ⟨q1, v, q2, q0.back hs q3⟩⟩
  | imm k rows => exact r
  | map es cl =>
    obtain ⟨ces0, _, _, b3⟩ := r0
    obtain ⟨ces, a1, a2, a3⟩ := r
    exact ⟨ces, a1, a2, fun i k v b e => by
      obtain ⟨_, _, _, q5, q6⟩ := b3 i k v b e
      obtain ⟨ke, q1, q2, q3, q4⟩ := a3 i k v b e
      exact ⟨ke, q1, q2, q5.back hs q3, q6.back hs q4⟩⟩
  | iter m since seen last =>
    obtain ⟨_, _, _, _, b4⟩ := r0
    obtain ⟨a1, cm, a2, a3, a4⟩ := r
    refine ⟨a1, cm, a2, a3, fun b e => ?_⟩
    obtain ⟨q0, z1, _⟩ := b4 b e
    obtain ⟨q, y1, y2⟩ := a4 b e
    rw [hs _ _ z1] at y1; cases y1
    exact ⟨_, z1, y2⟩
  | dead => trivial

theorem knownV_rep {w' : World} {I' : Nat → Prop} {φ' : Phi} {v : AV} {u : Value} (S : Sim w I φ h) (hs : ∀ b q, φ b = some q → φ' b = some q) (hk : knownV h v = true) (r : VRep w' I' φ' v u) :
    VRep w' I' φ v u := by
  have blk : ∀ b, (Heap.get h b).isSome = true → ∃ p, φ b = some p := by
    intro b hb
    cases hx : Heap.get h b with
    | none => rw [hx] at hb; cases hb
    | some x => exact S.pl b x hx
  unfold knownV at hk
  split at hk
  · obtain ⟨p, hp⟩ := blk _ hk
    cases r with | sl hp' g0 g1 g2 g3 g4 g5 g6 => rw [hs _ _ hp] at hp'; cases hp'; exact .sl hp g0 g1 g2 g3 g4 g5 g6
  · obtain ⟨p, hp⟩ := blk _ hk
    cases r with | ptr hp' => rw [hs _ _ hp] at hp'; cases hp'; exact .ptr hp
  · cases r with | isl g a b c d e f' g' => exact .isl g a b c d e f' g'
  · exact flat_rep _ _ _ hk r

/-- What a call made beside what it met may be dropped. -/
theorem Sim.drop {w' : World} {I' : Nat → Prop} {φ' : Phi} {h1 : Heap} (S : Sim w I φ h) (S' : Sim w' I' φ' h1) (X : Ext w I φ h w' I' φ' h1)
    (hs : ∀ b x, Heap.get h b = some x → Heap.get h1 b = some x) : Sim w' I' φ h ∧ Ext w I φ h w' I' φ h := by
  have ow : ∀ cb, Owned φ h cb → Owned φ' h1 cb := fun cb ⟨b, x, p, e1, e2, e3, e4⟩ => ⟨b, x, p, hs b x e1, e2, X.phi b p e3, e4⟩
  refine ⟨⟨S.dom, S.pl, fun b x p e1 e2 => ?_, fun cb o => S'.own cb (ow cb o), S.inj, S'.imm, S'.glob⟩,
    ⟨X.os, X.tape, X.output, X.size, fun _ _ e => e, X.imm, X.keep, X.frame, fun _ o _ => o, X.new, X.fz⟩⟩
  exact (S.rep b x p e1 e2).back X.phi (S'.rep b x p (hs b x e1) (X.phi b p e2))

theorem docall_ok {call : CallFn} (hc : CallOK P call) : CallOK P (docall E call) := by
  intro f args h n v h' n' e
  unfold docall at e
  cases hs : E.shared f with
  | true =>
    rw [hs] at e
    simp only [cond_true] at e
    cases hq : quietN f with
    | false => rw [hq] at e; exact hc f args h n v h' n' e
    | true =>
      rw [hq] at e
      obtain ⟨rfl, _, h1, m, e2, hsub, hfl⟩ := still_some e
      obtain ⟨hb, hcalls⟩ := hc f args h' n v h1 m e2
      refine ⟨hb, fun w I φ cargs S A => (hcalls w I φ cargs S A).mono ?_⟩
      intro e w' he
      cases e with
      | returned u =>
        obtain ⟨I2, φ2, r2, S2, X2⟩ := he
        obtain ⟨S4, X4⟩ := Sim.drop S S2 X2 (fun b x e => subHeap_get _ _ hsub _ _ e)
        exact ⟨I2, φ, knownV_rep S X2.phi hfl r2, S4, X4⟩
      | panicked c => exact he.elim
      | outgrown => exact he.elim
  | false =>
    rw [hs] at e
    simp only [cond_false] at e
    split at e
    · rename_i args' h1 h2
      split at e
      · rename_i v' hv
        cases e
        unfold pureCall at hv
        split at hv
        · rename_i x hx nx hcall
          split at hv
          · rename_i y hy hfr
            cases hv
            obtain ⟨hb, hcalls⟩ := hc _ _ _ _ _ _ _ hcall
            refine ⟨hb, fun w I φ cargs S A => ?_⟩
            obtain ⟨I1, f1, l1, r1, _⟩ := (frz_all E.fuel).all I h h1 args args' (fun i => cargs.getD i _root_.Go.undef) S A.2 h2
            refine (hcalls w I1 noPhi cargs (Sim.empty f1.sim.imm f1.sim.glob) ⟨A.1.trans l1.symm, r1⟩).mono ?_
            intro e w' he
            cases e with
            | returned u =>
              obtain ⟨I2, φ2, r2, S2, X2⟩ := he
              obtain ⟨I3, f3, r3, _⟩ := (frz_all E.fuel).one I2 hx hy x v u S2 r2 hfr
              have X3 := X2.trans f3.ext
              cases hfl : flat E.fuel v with
              | true =>
                obtain ⟨S4, X4⟩ := Sim.past S X3 (fun _ e => e) (fun _ e _ => e) (fun cb e => Nat.lt_of_lt_of_le (S.imm cb e) X3.size)
                exact ⟨I, φ, flat_rep _ _ _ hfl r3, S4, X4⟩
              | false =>
                obtain ⟨S4, X4⟩ := Sim.past f1.sim X3 X3.imm (fun cb e hc => (X3.new cb e hc).resolve_right not_owned_empty) f3.sim.imm
                exact ⟨I3, φ, r3.of_tree, S4, f1.ext.trans X4⟩
            | panicked c => exact he.elim
            | outgrown => exact he.elim
          · cases hv
        · cases hv
      · cases e
    · cases e

theorem ARep.append {xs ys : List AV} {va vb : Array Value} (r1 : ARep w I φ xs va) (r2 : ARep w I φ ys vb) : ARep w I φ (xs ++ ys) (va ++ vb) := by
  refine ⟨by simp [r1.1, r2.1], fun i x e => ?_⟩
  rw [List.getElem?_append] at e
  rw [Array.getD_eq_getD_getElem?, Array.getElem?_append]
  by_cases hi : i < xs.length
  · rw [if_pos hi] at e
    rw [if_pos (by rw [r1.1]; exact hi), ← Array.getD_eq_getD_getElem?]; exact r1.2 i x e
  · rw [if_neg hi] at e
    rw [if_neg (by rw [r1.1]; exact hi), ← Array.getD_eq_getD_getElem?, r1.1]; exact r2.2 _ x e

theorem callFunc_run {f : FuncId} {fn : Func} {cargs : Array Value} (hb : bodied P f = some fn) : (callFunc f cargs).run P w = .ok (.enter f cargs) w := by
  unfold bodied at hb
  split at hb
  · rename_i fn' hf
    split at hb
    · rename_i c hc
      cases hn : (fn'.name != "runtime.NumGoroutine" && dstOk fn'.ntmps c) with
      | false => rw [hn] at hb; cases hb
      | true =>
        simp only [Bool.and_eq_true, bne_iff_ne, ne_eq] at hn
        unfold callFunc
        simp [hf, hn.1, hc]
    · cases hb
  · cases hb

theorem callee_ok (hE : EnvOK E P) {c : Call} {o : Oper} {f : FuncId} {fn : Func} {args : List AV} (ht : TRep w I φ t a.tmps) (ho : o.op = .call c)
    (hc : callee E t c = some (f, args)) (hb : bodied P f = some fn) : ∃ cargs, (execOp a.eval o).run P w = .ok (.enter f cargs) w ∧ ARep w I φ args cargs := by
  unfold callee at hc
  split at hc
  · cases hc
  · rename_i vs hvs
    have hargs : ARep w I φ vs (c.args.map a.eval) := evalAll_arr ht hvs
    split at hc
    · rename_i fo hcal
      split at hc
      · rename_i g first captured hg
        cases hc
        have hv := evalOp_rep ht hg
        generalize hx : a.eval fo = cf at hv
        cases hv with
        | func va vb a1 a2 a3 a4 =>
          refine ⟨va ++ c.args.map a.eval ++ vb, ?_, ?_⟩
          · simp only [execOp, ho, resolve, hcal, hx, Deferred.ofValue, Sem.run_bind, Sem.run_pure, Result.andThen_ok, invoke, callFunc_run hb]
          · rw [← List.append_assoc]
            exact ARep.append (ARep.append ⟨a1, a3⟩ hargs) ⟨a2, a4⟩
      · cases hc
    · rename_i ro m hcal
      split at hc
      · rename_i ty x hx
        split at hc
        · rename_i g hm
          cases hc
          have hv := evalOp_rep ht hx
          generalize hx : a.eval ro = cf at hv
          cases hv with
          | iface hv =>
            rename_i u
            refine ⟨#[u] ++ c.args.map a.eval, ?_, ?_⟩
            · have hmm := hE.meth _ _ _ hm
              unfold methOf at hmm
              split at hmm
              · rename_i i hi
                split at hmm
                · rename_i mm hfind
                  split at hmm
                  · rename_i g' e h1 h2
                    cases hp : mm.path.isEmpty with
                    | false => rw [hp] at hmm; cases hmm
                    | true =>
                      rw [hp] at hmm
                      cases hmm
                      have hpath : mm.path.toList = [] := by simpa using hp
                      have hmeth : (method (P.types.size + Made.depth) ty u m).run P w = .ok (f, u) w := by
                        have hd : P.types.size + Made.depth = (P.types.size + 99) + 1 := rfl
                        rw [hd]
                        unfold method
                        simp [typeInfo_run hi, hfind, hpath, follow, h1, receiverAt, run_underlying h2, Place.get]
                      have hex : ∀ y : Value, (#[y] ++ c.args.map a.eval).extract 1 = c.args.map a.eval := by
                        intro y
                        apply Array.ext'
                        simp [List.take_of_length_le]
                      have h0 : ∀ y : Value, (#[y] ++ c.args.map a.eval)[0]? = some y := by intro y; rw [Array.getElem?_append_left (by simp)]; rfl
                      simp only [execOp, ho, resolve, hcal, Sem.run_bind, Sem.run_pure, Result.andThen_ok, invoke, h0, hex, hx, callMethod, run_program, hmeth, callFunc_run hb]
                  · cases hmm
                · cases hmm
              · cases hmm
            · exact ARep.append (xs := [x]) ⟨rfl, fun i y e => by cases i with | zero => cases e; exact hv | succ i => simp at e⟩ hargs
        · cases hc
      · cases hc
    · cases hc
end
end Go.AM
