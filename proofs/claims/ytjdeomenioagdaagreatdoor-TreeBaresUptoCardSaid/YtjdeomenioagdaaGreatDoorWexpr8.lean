/- Expressions are written, by the program: all of them. -/
import Derived.Test.YtjdeomenioagdaaGreatDoorWexpr7
set_option linter.unusedVariables false
set_option linter.unusedSimpArgs false
namespace Go.Proofs.YtjdeomenioagdaaGreatDoor
open Go.RowKit
theorem wexpr_ih {w0 : World} {B g : Nat} {d : Option Int} (he : Env w0 B) : ∀ m, WExprIH w0 B g d m
  | 0 => fun n a _ _ hm => absurd n.size_pos (by omega)
  | m + 1 => fun n a hn hit hm s w h hr => by
    have ih := wexpr_ih (g := g) (d := d) he m
    rcases item_cases n hit with k | k | k | k | k | ⟨k, k1, k2, k3⟩ | ⟨k, k1, k2⟩ | ⟨k, k1⟩ | ⟨k, k1, k2⟩ | ⟨k, k1, k2⟩
    · exact wexpr_leaf he hn (.inl k) h hr
    · exact wexpr_leaf he hn (.inr (.inl k)) h hr
    · exact wexpr_leaf he hn (.inr (.inr (.inl k))) h hr
    · exact wexpr_leaf he hn (.inr (.inr (.inr (.inl k)))) h hr
    · exact wexpr_leaf he hn (.inr (.inr (.inr (.inr k)))) h hr
    · exact wexpr_unary he ih hn hm k k1 k2 k3 h hr
    · exact wexpr_binary ih hn hm k k1 k2 h hr
    · exact wexpr_call ih hn hm k k1 h hr
    · exact wexpr_make ih hn hm k k1 k2 h hr
    · exact wexpr_method ih hn hm k k1 k2 h hr
theorem wexpr_c {w0 : World} {B g : Nat} {d : Option Int} {a : Addr} {n : Node} (he : Env w0 B) (hn : NodeAt w0 B a n) (hx : exprB n = true) : Adds 68 w0 B g d a (toldS n) :=
  wexpr_ih he n.size n a hn (itemB_of_expr hx) (Nat.le_refl _)
end Go.Proofs.YtjdeomenioagdaaGreatDoor
