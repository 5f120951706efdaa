/- The evaluator AM: tables of known answers. -/
import Derived.Test.YtakcafdfbnibkaaGreatDoorF1
set_option linter.unusedVariables false
namespace Go.AM

/-- Are two lists alike, by a test of their parts? -/
def all2 {α : Type} (f : α → α → Bool) : List α → List α → Bool
  | [], [] => true
  | x :: xs, y :: ys => f x y && all2 f xs ys
  | _, _ => false
def sameCap : Option Nat → Option Nat → Bool
  | none, none => true
  | some a, some b => Nat.beq a b
  | _, _ => false

/-- Are two trees the same, written alike? Only trees without numbers of blocks are told so. -/
noncomputable def same : Nat → AV → AV → Bool
  | 0, _, _ => false
  | n + 1, x, y => match x with
    | .bool a => match y with
      | .bool b => a == b
      | _ => false
    | .int k a => match y with
      | .int k' b => sameKind k k' && ieq a b
      | _ => false
    | .str a => match y with
      | .str b => all2 (fun p q => Nat.beq p.toNat q.toNat) a b
      | _ => false
    | .nilptr => match y with
      | .nilptr => true
      | _ => false
    | .nilsl => match y with
      | .nilsl => true
      | _ => false
    | .nilmap => match y with
      | .nilmap => true
      | _ => false
    | .nilfunc => match y with
      | .nilfunc => true
      | _ => false
    | .niliface => match y with
      | .niliface => true
      | _ => false
    | .isl r c => match y with
      | .isl r' c' => all2 (all2 (same n)) r r' && sameCap c c'
      | _ => false
    | .agg cs => match y with
      | .agg cs' => all2 (same n) cs cs'
      | _ => false
    | .tuple cs => match y with
      | .tuple cs' => all2 (same n) cs cs'
      | _ => false
    | _ => false

theorem all2_eq {α : Type} {f : α → α → Bool} (hf : ∀ x y, f x y = true → x = y) : ∀ xs ys : List α, all2 f xs ys = true → xs = ys
  | [], [], _ => rfl
  | x :: xs, y :: ys, h => by
    simp only [all2, Bool.and_eq_true] at h
    rw [hf x y h.1, all2_eq hf xs ys h.2]
  | [], _ :: _, h => by simp [all2] at h
  | _ :: _, [], h => by simp [all2] at h
theorem sameCap_eq : ∀ a b : Option Nat, sameCap a b = true → a = b
  | none, none, _ => rfl
  | some a, some b, h => by rw [Nat.eq_of_beq_eq_true h]
  | none, some _, h => by simp [sameCap] at h
  | some _, none, h => by simp [sameCap] at h

theorem same_eq : ∀ (n : Nat) (x y : AV), same n x y = true → x = y
  | 0, _, _, h => by simp [same] at h
  | n + 1, x, y, h => by
    have ih := same_eq n
    cases x with
    | bool a => cases y <;> first | (cases h; done) | (simp only [same, beq_iff_eq] at h; rw [h])
    | int k a => cases y <;> first | (cases h; done) | (simp only [same, Bool.and_eq_true] at h; rw [ieq_eq] at h; rw [sameKind_eq h.1, beq_iff_eq.1 h.2])
    | str a => cases y <;> first | (cases h; done) | (simp only [same] at h; rw [all2_eq (fun p q e => UInt8.toNat_inj.1 (Nat.eq_of_beq_eq_true e)) _ _ h])
    | isl r c => cases y <;> first | (cases h; done) | (simp only [same, Bool.and_eq_true] at h; rw [all2_eq (all2_eq ih) _ _ h.1, sameCap_eq _ _ h.2])
    | agg a => cases y <;> first | (cases h; done) | (simp only [same] at h; rw [all2_eq ih _ _ h])
    | tuple a => cases y <;> first | (cases h; done) | (simp only [same] at h; rw [all2_eq ih _ _ h])
    | nilptr => cases y <;> first | rfl | (cases h; done)
    | nilsl => cases y <;> first | rfl | (cases h; done)
    | nilmap => cases y <;> first | rfl | (cases h; done)
    | nilfunc => cases y <;> first | rfl | (cases h; done)
    | niliface => cases y <;> first | rfl | (cases h; done)
    | ptr a b c => cases h
    | iptr a b c => cases h
    | sl a b c d e => cases h
    | map a => cases h
    | func a b c => cases h
    | iface a b => cases h

/-- Known answers, one behind the other. -/
noncomputable def listed (fuel : Nat) (l : List (FuncId × List AV × AV)) (f : FuncId) (args : List AV) : Option AV :=
  List.rec (motive := fun _ => Option AV) none
    (fun e _ r => bif Nat.beq e.1 f then bif all2 (same fuel) e.2.1 args then some e.2.2 else r else r) l

theorem listed_knows {P : Program} {fuel : Nat} : ∀ (l : List (FuncId × List AV × AV)), (∀ e ∈ l, Knows P e.1 e.2.1 e.2.2) →
    ∀ f args v, listed fuel l f args = some v → Knows P f args v
  | [], _, _, _, _, h => by simp [listed] at h
  | e :: l, hk, f, args, v, h => by
    have ih := listed_knows (fuel := fuel) l (fun e he => hk e (List.mem_cons_of_mem _ he)) f args v
    unfold listed at h ih
    dsimp only at h
    cases h1 : Nat.beq e.1 f with
    | false => rw [h1] at h; exact ih h
    | true =>
      cases h2 : all2 (same fuel) e.2.1 args with
      | false => rw [h1, h2] at h; exact ih h
      | true =>
        rw [h1, h2] at h
        cases h
        have := hk e (by simp)
        rw [all2_eq (same_eq fuel) _ _ h2, Nat.eq_of_beq_eq_true h1] at this
        exact this
end Go.AM
