/- Small laws of the walk: a scope whose run goes to its label once. -/
import Derived.ScopeJumps
import Derived.WalkMore
namespace Go.Proofs.Ytckdcaidhpjjaaa.X
open Go
theorem wp_scope_once {P : Program} {a : Act} {w : World} {Q : Exit → Act → World → Prop} {c rest : Code} (l : Nat) (hf : findLabel c l = some rest)
    (first : c.wp P (Exit.jump l (fun a w => rest.wp P (Exit.noGoto Q) a w) Q) a w) : (Code.scope c).wp P Q a w := by
  refine wp_scope_jumps l (fun a w => rest.wp P (Exit.noGoto Q) a w) (fun _ _ => 0) hf first fun a w h => ?_
  refine Code.wp_mono (fun e a' w' hq => ?_) h
  cases e <;> first | exact hq | exact hq.elim
theorem jump_ret {a : Act} {w : World} {Q : Exit → Act → World → Prop} {l : Nat} {J : Act → World → Prop} : Exit.jump l J Q .ret a w = Q .ret a w := rfl
theorem jump_normal {a : Act} {w : World} {Q : Exit → Act → World → Prop} {l : Nat} {J : Act → World → Prop} : Exit.jump l J Q .normal a w = Q .normal a w := rfl
theorem jump_exit {a : Act} {w : World} {Q : Exit → Act → World → Prop} {l : Nat} {J : Act → World → Prop} (i : Nat) : Exit.jump l J Q (.exit i) a w = Q (.exit i) a w := rfl
attribute [go_sem] jump_ret jump_normal jump_exit
end Go.Proofs.Ytckdcaidhpjjaaa.X
