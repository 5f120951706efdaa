/- The evaluator AM: operations change places. -/
import Derived.Test.YtakcafdfbnibkaaGreatDoorD5
set_option linter.unusedVariables false
set_option linter.unusedSimpArgs false
namespace Go.AM
section
variable {E : Env} {call : CallFn} {ops : Array Oper}

theorem plain_log {l : Log} (h : l.plain = true) : ∃ m, l.met = some m ∧ m.rd = [] ∧ m.wr = [] := by
  unfold Log.plain at h
  cases hm : l.met with
  | none => rw [hm] at h; cases h
  | some m =>
    rw [hm] at h
    simp only [Bool.and_eq_true, List.isEmpty_iff] at h
    exact ⟨m, rfl, h.1.1, h.1.2⟩

theorem apart_ne {a b : List Nat} (h : AM.apart a b = true) : ∀ x ∈ a, ∀ y ∈ b, x ≠ y := by
  intro x hx y hy e
  subst e
  have := List.all_eq_true.1 h x hx
  simp at this
  exact this hy

theorem core_comm {ix iy : Nat} {x y : Oper} {t : Tmps} {h h1 h2 : Heap} {n n1 n2 : Nat} {vx vy : AV} {lx ly : Log}
    (cx : core E call ops ix x t h n = some (vx, h1, n1)) (ex : clog E call ops ix x t h n = lx)
    (cy : core E call ops iy y t h1 n1 = some (vy, h2, n2)) (ey : clog E call ops iy y t h1 n1 = ly) (hc : lx.compat ly = true) :
    ∃ H N, core E call ops iy y t h n = some (vy, H, N) ∧ clog E call ops iy y t h n = ly ∧ core E call ops ix x t H N = some (vx, h2, n2) ∧ clog E call ops ix x t H N = lx := by
  unfold Log.compat at hc
  simp only [Bool.or_eq_true] at hc
  rcases hc with ((hc | hc) | hc) | hc
  · obtain ⟨m, m1, m2, m3⟩ := plain_log hc
    rw [← ex] at m1
    obtain ⟨q1, l, q2, q3, q4⟩ := core_met m1 cx
    have := puts_nil q3 m3
    subst this
    have q2 : h1 = h := q2
    subst q1; subst q2
    obtain ⟨g1, g2⟩ := q4 h2 n2 (fun b hb => by rw [m2] at hb; cases hb)
    exact ⟨h2, n2, cy, ey, g1, g2.trans ex⟩
  · obtain ⟨m, m1, m2, m3⟩ := plain_log hc
    rw [← ey] at m1
    obtain ⟨q1, l, q2, q3, q4⟩ := core_met m1 cy
    have := puts_nil q3 m3
    subst this
    have q2 : h2 = h1 := q2
    subst q1; subst q2
    obtain ⟨g1, g2⟩ := q4 h n (fun b hb => by rw [m2] at hb; cases hb)
    exact ⟨h, n, g1, g2.trans ey, cx, ex⟩
  · simp only [Bool.and_eq_true, Bool.not_eq_true'] at hc
    rw [← ex, ← ey] at hc
    obtain ⟨q1, q2⟩ := core_quiet hc.1 cx
    obtain ⟨q3, q4⟩ := core_quiet hc.2 cy
    subst q1; subst q2; subst q3; subst q4
    exact ⟨_, _, cy, ey, cx, ex⟩
  · cases hx : lx.met with
    | none => rw [hx] at hc; cases hc
    | some mx =>
      cases hy : ly.met with
      | none => rw [hx, hy] at hc; cases hc
      | some my =>
        rw [hx, hy] at hc
        simp only [Bool.and_eq_true] at hc
        obtain ⟨⟨a1, a2⟩, a3⟩ := hc
        obtain ⟨q1, l, q2, q3, q4⟩ := core_met (by rw [ex]; exact hx) cx
        obtain ⟨r1, k, r2, r3, r4⟩ := core_met (by rw [ey]; exact hy) cy
        subst q1; subst q2; subst r1; subst r2
        obtain ⟨g1, g2⟩ := r4 h n2 (fun b hb => (puts_get (fun p hp => apart_ne a1 p.1 (q3 p hp) b hb)).symm)
        obtain ⟨g3, g4⟩ := q4 (puts k h) n2 (fun b hb => puts_get (fun p hp => apart_ne a3 p.1 (r3 p hp) b hb))
        refine ⟨puts k h, n2, g1, g2.trans ey, ?_, g4.trans ex⟩
        rw [g3, puts_comm (fun p hp q hq => apart_ne a2 p.1 (q3 p hp) q.1 (r3 q hq))]

theorem tput_other {t : Tmps} {d : Option Nat} {v : AV} {i : Nat} (h : ∀ e, d = some e → e ≠ i) : tget (tput t d v) i = tget t i := by
  cases d with
  | none => rfl
  | some d => exact tget_tset_ne (h d rfl)

theorem tput_comm {t : Tmps} {d e : Option Nat} {v u : AV} (h : ∀ x, d = some x → e ≠ some x) : tput (tput t d v) e u = tput (tput t e u) d v := by
  cases d with
  | none => rfl
  | some d =>
    cases e with
    | none => rfl
    | some e => exact tset_comm (fun he => h d rfl (by rw [he]))

theorem one_core {id : Nat} {o : Oper} {s s' : St} (e : execOne E call ops.toList id o s = some s') :
    ∃ v, core E call ops id o s.tmps s.heap s.next = some (v, s'.heap, s'.next) ∧ s'.tmps = tput s.tmps o.dst v := by
  rw [execOne_core] at e
  cases hc : core E call ops id o s.tmps s.heap s.next with
  | none => rw [hc] at e; cases e
  | some r => rw [hc] at e; cases e; exact ⟨r.1, rfl, rfl⟩

theorem swap {ix iy : Nat} {x y : Oper} {s s1 s2 : St} {lx ly : Log} (hx : execOne E call ops.toList ix x s = some s1) (ex : clog E call ops ix x s.tmps s.heap s.next = lx)
    (hy : execOne E call ops.toList iy y s1 = some s2) (ey : clog E call ops iy y s1.tmps s1.heap s1.next = ly) (hc : lx.compat ly = true) (ha : x.apart ops y = true) :
    ∃ t1, execOne E call ops.toList iy y s = some t1 ∧ clog E call ops iy y s.tmps s.heap s.next = ly ∧ execOne E call ops.toList ix x t1 = some s2 ∧ clog E call ops ix x t1.tmps t1.heap t1.next = lx := by
  obtain ⟨b1, b2, b3⟩ := Oper.apart_spec ha
  obtain ⟨vx, cx, tx⟩ := one_core hx
  obtain ⟨vy, cy, ty⟩ := one_core hy
  have sy : ∀ d ∈ y.looksAt ops, tget s1.tmps d = tget s.tmps d := by
    intro d hd
    rw [tx]
    exact tput_other (fun e he hed => b1 e he (by rw [hed]; exact hd))
  obtain ⟨y1, y2⟩ := core_same (E := E) (call := call) (id := iy) (h := s1.heap) (n := s1.next) sy
  rw [y1] at cy
  rw [y2] at ey
  obtain ⟨H, N, c1, c2, c3, c4⟩ := core_comm cx ex cy ey hc
  have sx : ∀ d ∈ x.looksAt ops, tget (tput s.tmps y.dst vy) d = tget s.tmps d := by
    intro d hd
    exact tput_other (fun e he hed => b3 e he (by rw [hed]; exact hd))
  obtain ⟨x1, x2⟩ := core_same (E := E) (call := call) (id := ix) (h := H) (n := N) sx
  refine ⟨⟨tput s.tmps y.dst vy, H, N⟩, ?_, c2, ?_, ?_⟩
  · rw [execOne_core, c1]
  · rw [execOne_core]
    simp only
    rw [x1, c3]
    simp only
    congr 1
    rw [← tput_comm b2, ← tx, ← ty]
  · simp only
    rw [x2, c4]

/-- Operations that are run one behind the other, with what each met. -/
inductive Runs (E : Env) (call : CallFn) (ops : Array Oper) : St → List ((Nat × Nat × Oper) × Log) → St → Prop
  | nil (s : St) : Runs E call ops s [] s
  | cons {s s1 s' : St} {i id : Nat} {o : Oper} {l : Log} {rest : List ((Nat × Nat × Oper) × Log)} : execOne E call ops.toList id o s = some s1 →
      clog E call ops id o s.tmps s.heap s.next = l → Runs E call ops s1 rest s' → Runs E call ops s (((i, id, o), l) :: rest) s'

/-- What no one ahead of it hinders may come first. -/
theorem Runs.front {i id : Nat} {o : Oper} {l : Log} {v : List ((Nat × Nat × Oper) × Log)} : ∀ {u : List ((Nat × Nat × Oper) × Log)} {s s' : St},
    Runs E call ops s (u ++ ((i, id, o), l) :: v) s' → (∀ x ∈ u, x.2.compat l = true ∧ x.1.2.2.apart ops o = true) → Runs E call ops s (((i, id, o), l) :: (u ++ v)) s'
  | [], s, s', h, _ => h
  | ((j, jd, p), k) :: u, s, s', h, hu => by
    cases h with
    | cons h1 h2 h3 =>
      have ih := Runs.front h3 (fun x hx => hu x (by simp [hx]))
      cases ih with
      | cons g1 g2 g3 =>
        obtain ⟨c1, c2⟩ := hu _ (List.mem_cons_self)
        obtain ⟨t1, q1, q2, q3, q4⟩ := swap h1 h2 g1 g2 c1 c2
        exact .cons q1 q2 (.cons q3 q4 g3)
end
end Go.AM
