/- Functions that only read nodes: the small ones. -/
import Derived.Test.YtjdeomenioagdaaGreatDoorProg
import Derived.Test.YtjdeomenioagdaaGreatDoorSpec
import Derived.KernelRfl
import Derived.BigQuiet
import Derived.WalkSpells
import Derived.WalkLawsBesides
set_option linter.unusedVariables false
set_option linter.unusedSimpArgs false
namespace Go.Proofs.YtjdeomenioagdaaGreatDoor
open Go.RowKit
def strOf : Value → ByteArray | .string s => s | _ => ByteArray.empty
theorem ret_bool {a b : Bool} (h : a = b) : Ending.returned (.bool a) = .returned (.bool b) := by rw [h]
theorem ret_int {k : IntKind} {a b : Int} (h : a = b) : Ending.returned (.int k a) = .returned (.int k b) := by rw [h]
set_option maxHeartbeats 4000000 in
theorem marks_c (k : Int) (w : World) : Calls Tryz.prog 33 #[.int .i64 k] w fun e w' => e = .returned (.bool (marksB k)) ∧ w = w' := by
  go_enter Tryz.func33, Tryz.ntmps33
  go_wp2_with fail
  all_goals go_ret
  all_goals exact ⟨ret_bool (by grind [marksB]), rfl⟩
def hasB (n : Node) (s : Int) : Bool := (Go.bits .and .i64 s 1 != 0 || n.text.toList.isEmpty) && (Go.bits .and .i64 s 2 != 0 || marksB n.kind || n.type.toList.isEmpty) && (Go.bits .and .i64 s 4 != 0 || n.n == 0)
theorem hasB0 (n : Node) : hasB n 0 = bareB n false false false := rfl
theorem hasB1 (n : Node) : hasB n 1 = bareB n true false false := rfl
theorem hasB2 (n : Node) : hasB n 2 = bareB n false true false := rfl
theorem hasB3 (n : Node) : hasB n 3 = bareB n true true false := rfl
theorem hasB4 (n : Node) : hasB n 4 = bareB n false false true := rfl
theorem hasB5 (n : Node) : hasB n 5 = bareB n true false true := rfl
set_option maxHeartbeats 4000000 in
theorem has_any {w0 w : World} {B : Nat} {a : Addr} {n : Node} (hn : NodeAt w0 B a n) (hr : Ro w0 B w) (s : Int) :
    Calls Tryz.prog 24 #[.pointer (some a), .int .i64 s] w fun e w' => e = .returned (.bool (hasB n s)) ∧ w = w' := by
  obtain ⟨A, c, hb, c0, c1, c2, c3, c7, hk⟩ := hn.open_
  have hc := hr.cell
  clear hn hr hk c7
  go_enter Tryz.func24, Tryz.ntmps24
  go_wp2_with (go_at_call 33; refine (marks_c _ _).mono ?_; rintro e w' ⟨rfl, rfl⟩)
  all_goals go_ret
  all_goals exact ⟨ret_bool (by simp_all [hasB]), rfl⟩
theorem has_c0 {w0 w : World} {B : Nat} {a : Addr} {n : Node} (hn : NodeAt w0 B a n) (hr : Ro w0 B w) :
    Calls Tryz.prog 24 #[.pointer (some a), .int .i64 0] w fun e w' => e = .returned (.bool (bareB n false false false)) ∧ w = w' := has_any hn hr 0
theorem has_c1 {w0 w : World} {B : Nat} {a : Addr} {n : Node} (hn : NodeAt w0 B a n) (hr : Ro w0 B w) :
    Calls Tryz.prog 24 #[.pointer (some a), .int .i64 1] w fun e w' => e = .returned (.bool (bareB n true false false)) ∧ w = w' := has_any hn hr 1
theorem has_c2 {w0 w : World} {B : Nat} {a : Addr} {n : Node} (hn : NodeAt w0 B a n) (hr : Ro w0 B w) :
    Calls Tryz.prog 24 #[.pointer (some a), .int .i64 2] w fun e w' => e = .returned (.bool (bareB n false true false)) ∧ w = w' := has_any hn hr 2
theorem has_c3 {w0 w : World} {B : Nat} {a : Addr} {n : Node} (hn : NodeAt w0 B a n) (hr : Ro w0 B w) :
    Calls Tryz.prog 24 #[.pointer (some a), .int .i64 3] w fun e w' => e = .returned (.bool (bareB n true true false)) ∧ w = w' := has_any hn hr 3
theorem has_c4 {w0 w : World} {B : Nat} {a : Addr} {n : Node} (hn : NodeAt w0 B a n) (hr : Ro w0 B w) :
    Calls Tryz.prog 24 #[.pointer (some a), .int .i64 4] w fun e w' => e = .returned (.bool (bareB n false false true)) ∧ w = w' := has_any hn hr 4
theorem has_c5 {w0 w : World} {B : Nat} {a : Addr} {n : Node} (hn : NodeAt w0 B a n) (hr : Ro w0 B w) :
    Calls Tryz.prog 24 #[.pointer (some a), .int .i64 5] w fun e w' => e = .returned (.bool (bareB n true false true)) ∧ w = w' := has_any hn hr 5
set_option maxHeartbeats 4000000 in
theorem recv_c {w0 w : World} {B : Nat} {a : Addr} {n : Node} (hn : NodeAt w0 B a n) (hr : Ro w0 B w) :
    Calls Tryz.prog 110 #[.pointer (some a)] w fun e w' => e = .returned (.bool (recvB n)) ∧ w = w' := by
  obtain ⟨A, c, hb, c0, c1, c2, c3, c7, hk⟩ := hn.open_
  have hc := hr.cell
  clear hn hr hk c7
  go_enter Tryz.func110, Tryz.ntmps110
  go_wp2_with fail
  all_goals go_ret
  all_goals exact ⟨ret_bool (by simp_all [recvB, isT]), rfl⟩
set_option maxHeartbeats 4000000 in
theorem none_c {w0 w : World} {B : Nat} {a : Addr} {n : Node} (hn : NodeAt w0 B a n) (hr : Ro w0 B w) :
    Calls Tryz.prog 104 #[.pointer (some a)] w fun e w' => e = .returned (.bool (nothingB n)) ∧ w = w' := by
  have hh := has_c0 hn hr
  obtain ⟨A, c, hb, c0, c1, c2, c3, c7, hk⟩ := hn.open_
  have hc := hr.cell
  have hl := hk.le
  have hl' := hk.le'
  clear hn hr hk
  go_enter Tryz.func104, Tryz.ntmps104
  go_wp2_with (go_at_call 24; refine hh.mono ?_; rintro e w' ⟨rfl, rfl⟩)
  all_goals go_ret
  all_goals exact ⟨ret_bool (by simp_all [nothingB]), rfl⟩
end Go.Proofs.YtjdeomenioagdaaGreatDoor
