/- The evaluator AM at this program: what it must show. -/
import Derived.Test.YtakcafdfbnibkaaGreatDoorE3
import Derived.Test.YtakcafdfbnibkaaGreatDoorProg
set_option linter.unusedVariables false
namespace Go.AM

theorem envOf_ok (P : Program) (d e : Nat) (shared : FuncId → Bool) (fuel : Nat) : EnvOK (envOf P (T.build (tiOf P) d 0 1) (T.build (bodied P) e 0 1) shared fuel) P :=
  ⟨fun t ti h => look_build h, fun f fn h => look_build h, fun t m f h => h⟩

def tidyF (fn : Func) : Bool :=
  match fn.body with
  | some c => tidy c
  | none => true

theorem progOK_of {P : Program} (h1 : P.follows .mixedOrders = true) (h2 : P.funcs.toList.all tidyF = true) : ProgOK P := by
  refine ⟨h1, fun f fn c hb hc => ?_⟩
  obtain ⟨hf, _⟩ := bodied_spec hb
  have := List.all_eq_true.1 h2 fn (List.mem_of_getElem? (i := f) (by rw [Array.getElem?_toList]; exact hf))
  unfold tidyF at this
  rw [hc] at this; exact this
end Go.AM
namespace Go.Proofs.YtakcafdfbnibkaaGreatDoor
open Go.AM
theorem follows_mixed : Tryz.prog.follows .mixedOrders = true := by decide +kernel
theorem tidy_all : Tryz.prog.funcs.toList.all tidyF = true := by decide +kernel
theorem prog_ok : ProgOK Tryz.prog := progOK_of follows_mixed tidy_all
end Go.Proofs.YtakcafdfbnibkaaGreatDoor
