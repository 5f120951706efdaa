/- The evaluator AM: append, as an operation. -/
import Derived.Test.YtakcafdfbnibkaaGreatDoorB7
set_option linter.unusedVariables false
set_option linter.unusedSimpArgs false
namespace Go.AM
section
variable {E : Env} {P : Program} {w : World} {I : Nat → Prop} {φ : Phi} {h h' : Heap} {id : Nat} {t : Tmps} {a : Act} {v : AV}

/-- What an append is about. -/
structure App (P : Program) (w : World) (I : Nat → Prop) (φ : Phi) (st xt e : Nat) (ti : TI) (i : TypeInfo) (z : Value) (d dx : TypeDesc) (ats : Array Nat) (args : Array Value)
    (cs cx : Value) (es : List (List AV)) : Prop where
  T : TyOK P e ti i z d
  hst : P.underlying st = some (.slice e)
  hxt : P.underlying xt = some dx
  hdx : isIntD dx = false
  h0 : ats[0]? = some st
  h1 : ats[1]? = some xt
  g0 : args[0]? = some cs
  g1 : args[1]? = some cx
  el : Elems P w I φ ti.size es cx

variable {st xt e ty : Nat} {ti : TI} {i : TypeInfo} {z : Value} {d dx : TypeDesc} {ats : Array Nat} {args : Array Value} {cs cx : Value} {es : List (List AV)}

theorem App.fit {base : Option Addr} {sLen sCap : Nat} {news : Array Value} {w' : World} (A : App P w I φ st xt e ti i z d dx ats args (.slice base sLen sCap) cx es)
    (hf : (Builtin.firstCells ti.size es.length cx).run P w = .ok news w) (hroom : sLen + es.length ≤ sCap)
    (hs : (match base with | some a => storeCells (a.add (sLen * ti.size)) news.toList | none => (pure () : Sem Unit)).run P w = .ok () w') :
    (Builtin.append_ ats ty args).run P w = .ok (.slice base (sLen + es.length) sCap) w' :=
  append_fit_run A.T A.hst A.hxt A.hdx A.h0 A.h1 A.g0 A.g1 (A.el.len w) hf hroom hs

/-- An append that makes a new block, behind whatever was given up ahead. -/
theorem App.grow {base : Option Addr} {sLen sCap : Nat} {hh : Heap} {old : List (List AV)} {o : Oper} {r : AV × Heap}
    (A : App P w I φ st xt e ti i z d dx ats args (.slice base sLen sCap) cx es) (S1 : Sim w I φ hh) (X1 : Ext w I φ h w I φ hh)
    (ho : execOp a.eval o = do pure (Next.value (← Builtin.append_ ats ty args)))
    (hk : ∀ e ∈ es, e.length = ti.size) (hko : ∀ e ∈ old, e.length = ti.size) (hby : ti.bytes ≤ 32768) (hlen : old.length = sLen)
    (hold : ∃ va, (∀ w' : World, w'.heap = w.heap → (Builtin.firstCells ti.size sLen (.slice base sLen sCap)).run P w' = .ok va w') ∧ ERep w I φ ti.size old va)
    (hgrow : sCap < sLen + es.length) (hz : z.cells.size = ti.size)
    (hr : (regrow id ti.size old es).run id hh = some r) : OpRes P a o w I φ h r.1 r.2 := by
  unfold regrow at hr
  obtain ⟨hb, hr⟩ := bif_run hr
  obtain ⟨hid, hr⟩ := Eff.run_nw hr
  have := Eff.run_ret hr
  subst this
  have hb : old.length + es.length ≤ 2 ^ 32 := Nat.le_of_ble_eq_true hb
  obtain ⟨news, hn1, hn2⟩ := A.el.cells hk es.length (Nat.le_refl _)
  rw [List.take_length] at hn2
  obtain ⟨olds, ho1, ho2⟩ := hold
  obtain ⟨cap, rest, c1, c2, c3⟩ := append_new_run (ty := ty) A.T A.hst A.hxt A.hdx A.h0 A.h1 A.g0 A.g1 (A.el.len w) hn1 ho1 hgrow (by omega) hby
  have hkk : ∀ e ∈ old ++ es, e.length = ti.size := fun e he => (List.mem_append.1 he).elim (hko e) (hk e)
  obtain ⟨S', X', hv⟩ := newBlock_ok (slack := true) (rows := old ++ es) (va := olds ++ news ++ rest) (el := e) (N := cap)
    (w' := { w with drawn := w.drawn + 1, heap := w.heap.push (.cells (olds ++ news ++ rest) e) }) S1 hid hkk (by simp; omega) (fun h => by cases h) (by
      simp only [Array.size_append, ho2.1, hn2.1, c2, hz]
      rw [hlen, ← Nat.add_mul, ← Nat.add_mul]
      exact Nat.le_of_eq (by congr 1; omega)) (ERep.append ho2 hn2 hko) rfl rfl rfl rfl
  refine ⟨_, _, _, I, _, by rw [ho]; exact run_value c3, .inl rfl, ?_, S', X1.trans X'⟩
  have := hv (old.length + es.length) (by simp)
  rw [hlen] at this ⊢
  exact this

theorem all_len {es : List (List AV)} {n : Nat} (h : es.all (fun e => e.length.beq n) = true) : ∀ e ∈ es, e.length = n :=
  fun e he => Nat.eq_of_beq_eq_true (List.all_eq_true.1 h e he)

theorem add_zero_addr (ad : Addr) : ad.add 0 = ad := by simp [Addr.add]

/-- Nothing is appended. -/
theorem App.nothing {s : AV} {o : Oper} (A : App P w I φ st xt e ti i z d dx ats args cs cx []) (S : Sim w I φ h) (hs : VRep w I φ s cs) (hsl : isSlice s = true)
    (ho : execOp a.eval o = do pure (Next.value (← Builtin.append_ ats ty args))) : OpRes P a o w I φ h s h := by
  obtain ⟨news, hn1, hn2⟩ := A.el.cells (fun e he => by cases he) 0 (Nat.le_refl _)
  have hnil : news.toList = [] := List.eq_nil_of_length_eq_zero (by rw [Array.length_toList, hn2.1]; simp)
  have key : ∀ (base : Option Addr) (sLen sCap : Nat), cs = .slice base sLen sCap → sLen ≤ sCap → OpRes P a o w I φ h s h := by
    intro base sLen sCap hc hle
    subst hc
    have hst : (match base with | some a => storeCells (a.add (sLen * ti.size)) news.toList | none => (pure () : Sem Unit)).run P w = .ok () w := by
      rw [hnil]; cases base <;> rfl
    have := A.fit (ty := ty) (hn1 w rfl) (by simpa using hle) hst
    refine OpRes.same S ?_ hs
    rw [ho]
    exact run_value this
  cases s with
  | nilsl => cases hs; exact key _ _ _ rfl (Nat.le_refl _)
  | isl row cap => cases hs with
    | isl f h1 h2 h3 h4 h5 h6 h7 => exact key _ _ _ rfl h5
  | sl b off len k cap => cases hs with
    | sl hp h0 h1 h2 h3 h4 h5 h6 => exact key _ _ _ rfl h2
  | _ => cases hsl

/-- It fits into the block that is there. -/
theorem App.inPlace {b off len k ccap : Nat} {cap : Option Nat} {slack : Bool} {rows : List (List AV)} {p : Pl} {ad : Addr} {o : Oper} {r : AV × Heap}
    (A : App P w I φ st xt e ti i z d dx ats args (.slice (some ad) len ccap) cx es) (S : Sim w I φ h)
    (ho : execOp a.eval o = do pure (Next.value (← Builtin.append_ ats ty args)))
    (hk : ∀ e ∈ es, e.length = ti.size) (hb : Heap.get h b = some (.cells slack ti.size rows)) (hp : φ b = some p) (hne : 0 < es.length)
    (q2 : len + es.length ≤ ccap) (q3 : off + ccap ≤ p.N) (q4 : ∀ c, cap = some c → ccap = c) (q5 : cap = none → off + ccap = p.N) (q6 : ad = cellAt p.cb (p.d + off * p.k))
    (hfit : off + len + es.length ≤ rows.length) (hr : (AM.inPlace b off len ti.size cap slack rows es).run id h = some r) : OpRes P a o w I φ h r.1 r.2 := by
  have := Eff.run_ret (Eff.run_wr hr)
  subst this
  obtain ⟨g1, g2, g3, _⟩ := S.rep b _ p hb hp
  obtain ⟨news, hn1, hn2⟩ := A.el.cells hk es.length (Nat.le_refl _)
  rw [List.take_length] at hn2
  obtain ⟨w', e1, S', X⟩ := writeRows_ok (P := P) (o := off + len) S hb hp hfit hk hn2
  have hst : (match (some ad : Option Addr) with | some a => storeCells (a.add (len * ti.size)) news.toList | none => (pure () : Sem Unit)).run P w = .ok () w' := by
    simp only [q6, g1, add_cellAt]
    rw [show p.d + off * ti.size + len * ti.size = p.d + (off + len) * ti.size by rw [Nat.add_mul]; omega]
    exact e1
  have := A.fit (ty := ty) (hn1 w rfl) q2 hst
  refine ⟨_, _, _, I, φ, by rw [ho]; exact run_value this, .inl rfl, ?_, S', X⟩
  exact .sl hp g1 (by omega) q2 q3 q4 q5 (.inr q6)

/-- It fits into room behind the block's end: the block is given up, a greater one takes its place. -/
theorem App.adopt {b off len ccap : Nat} {rows : List (List AV)} {p : Pl} {ad : Addr} {o : Oper} {r : AV × Heap}
    (A : App P w I φ st xt e ti i z d dx ats args (.slice (some ad) len ccap) cx es) (S : Sim w I φ h)
    (ho : execOp a.eval o = do pure (Next.value (← Builtin.append_ ats ty args)))
    (hk : ∀ e ∈ es, e.length = ti.size) (hb : Heap.get h b = some (.cells true ti.size rows)) (hp : φ b = some p) (hne : 0 < es.length)
    (q1 : off + len ≤ rows.length) (q2 : len + es.length ≤ ccap) (q3 : off + ccap = p.N) (q6 : ad = cellAt p.cb (p.d + off * p.k))
    (hr : (regrow id ti.size ((rows.drop off).take len) es).run id (Heap.put h b .dead) = some r) : OpRes P a o w I φ h r.1 r.2 := by
  unfold regrow at hr
  obtain ⟨hbd, hr⟩ := bif_run hr
  obtain ⟨hid, hr⟩ := Eff.run_nw hr
  have := Eff.run_ret hr
  subst this
  obtain ⟨g1, g2, g3, g4, g5, cc, ce, g6, g7, g8⟩ := S.rep b _ p hb hp
  obtain ⟨news, hn1, hn2⟩ := A.el.cells hk es.length (Nat.le_refl _)
  rw [List.take_length] at hn2
  have hold : ((rows.drop off).take len).length = len := by rw [List.length_take, List.length_drop]; omega
  obtain ⟨S1, X1⟩ := S.kill hb
  have hlen : news.toList.length = es.length * ti.size := by rw [Array.length_toList]; exact hn2.1
  have hmul : (off + len + es.length) * ti.size ≤ p.N * ti.size := Nat.mul_le_mul_right _ (by omega)
  rw [Nat.add_mul] at hmul
  have hfit : p.d + (off + len) * ti.size + news.toList.length ≤ cc.size := by rw [hlen]; omega
  have hst0 := storeCells_run (P := P) g6 hfit (hn2.oneCell hk)
  have hst : (match (some ad : Option Addr) with | some a => storeCells (a.add (len * ti.size)) news.toList | none => (pure () : Sem Unit)).run P w =
      .ok () (w.setRow p.cb (arrW cc (p.d + (off + len) * ti.size) news.toList)) := by
    simp only [q6, g1, add_cellAt]
    rw [show p.d + off * ti.size + len * ti.size = p.d + (off + len) * ti.size by rw [Nat.add_mul]; omega]
    exact hst0
  have hrun := A.fit (ty := ty) (hn1 w rfl) q2 hst
  have hob : Owned φ h p.cb := ⟨b, _, p, hb, trivial, hp, rfl⟩
  have hnob : ¬ Owned φ (Heap.put h b .dead) p.cb := by
    rintro ⟨c, y, q, h1, h2, h3, h4⟩
    rw [Heap.get_put_of] at h1
    split at h1
    · cases h1; exact h2
    · rename_i hne'
      exact hne' (S.inj b c _ _ _ _ hb h1 trivial h2 hp h3 h4.symm)
  let p' : Pl := ⟨p.cb, p.d + off * ti.size, ti.size, len + es.length, p.N - off⟩
  obtain ⟨S', X'⟩ := S1.new (h0 := h) (id := id) (x := .cells true ti.size ((rows.drop off).take len ++ es)) (p := p')
    (w' := w.setRow p.cb (arrW cc (p.d + (off + len) * ti.size) news.toList)) hid trivial (S.own _ hob).1 (by simpa using (S.own _ hob).2) hnob (fun _ => hob)
    (fun cb o => X1.own cb o (S1.own cb o).2) rfl rfl rfl (by simp) (fun cb hne' => setRow_other w p.cb cb _ hne') (fun ad e => by unfold World.frozen?; rw [show ad.block = p.cb from e, g6]; simp) (fun hv => by
      refine ⟨rfl, by simp [p']; omega, by simp [p']; omega, (fun h => by cases h), fun e he => (List.mem_append.1 he).elim (fun he => g5 e (List.mem_of_mem_drop (List.mem_of_mem_take he))) (hk e),
        _, ce, setRow_heap w p.cb cc _ ce _ g6, ?_, fun i j c hc => ?_⟩
      · rw [arrW_size hfit]
        show p.d + off * ti.size + (p.N - off) * ti.size ≤ cc.size
        rw [Nat.add_assoc, ← Nat.add_mul, show off + (p.N - off) = p.N by omega]; exact g7
      · show isCell c = true ∧ ∃ v, (arrW cc (p.d + (off + len) * ti.size) news.toList)[p.d + off * ti.size + i * ti.size + j]? = some v ∧ _
        have hex : (off + len) * ti.size = off * ti.size + len * ti.size := Nat.add_mul _ _ _
        rcases rowAt_append hc with ⟨hi, e1⟩ | ⟨hi, e1⟩
        · rw [hold] at hi
          obtain ⟨_, e2⟩ := rowAt_take e1
          have e3 := rowAt_drop e2
          obtain ⟨k1, u, k2, k3⟩ := g8 _ _ _ e3
          obtain ⟨_, hj⟩ := rowAt_lt g5 e3
          have hlt := idx_lt hi hj
          refine ⟨k1, u, ?_, hv _ _ k3⟩
          rw [arrW_get hfit, if_neg (by omega)]
          rw [show p.d + off * ti.size + i * ti.size + j = p.d + (off + i) * ti.size + j by rw [Nat.add_mul]; omega]; exact k2
        · rw [hold] at hi e1
          obtain ⟨k1, u, k2, k3⟩ := hn2.2 _ _ _ e1
          obtain ⟨hie, hj⟩ := rowAt_lt hk e1
          have hlt := idx_lt hie hj
          have hii : i * ti.size = len * ti.size + (i - len) * ti.size := by rw [← Nat.add_mul]; congr 1; omega
          refine ⟨k1, u, ?_, hv _ _ k3⟩
          rw [arrW_get hfit, if_pos ⟨by omega, by omega⟩]
          rw [show p.d + off * ti.size + i * ti.size + j - (p.d + (off + len) * ti.size) = (i - len) * ti.size + j by omega]; simpa using k2)
  refine ⟨_, _, _, I, _, by rw [ho]; exact run_value hrun, .inl rfl, ?_, S', X'⟩
  rw [hold]
  exact .sl (Phi.set_same _ _ _) rfl (by simp [p']) q2 (by simp [p']; omega) (fun c hc => by cases hc) (fun _ => by simp [p']; omega) (.inr (by rw [q6, g1]; simp [p']))
end
end Go.AM
