/- Expressions are written, by the program: make; methods; all of them. -/
import Derived.Test.YtjdeomenioagdaaGreatDoorWexpr5
set_option linter.unusedVariables false
set_option linter.unusedSimpArgs false
namespace Go.Proofs.YtjdeomenioagdaaGreatDoor
open Go.RowKit
set_option maxHeartbeats 40000000 in
set_option maxRecDepth 100000 in
theorem wexpr_make {w0 w : World} {B g : Nat} {d : Option Int} {s : ByteArray} {a : Addr} {n : Node} {m : Nat} (ih : WExprIH w0 B g d m) (hn : NodeAt w0 B a n) (hm1 : n.size ≤ m + 1) (h0 : n.kind = 29) (h1 : n.kids.length ≤ 1) (hall : n.kids.all exprB = true)
    (h : St w0 B g d s w) (hm : s.size + (toldS n).size ≤ 140737488355328) :
    Calls Tryz.prog 68 #[.pointer (some ⟨g, 0, none⟩), .pointer (some a)] w fun e w' => e = .returned (.tuple #[]) ∧ St w0 B g d (s ++ toldS n) w' ∧ Wf g w w' := by
  obtain ⟨A, c, hb, c0, c1, c2, c3, c7, hk⟩ := hn.open_
  have hr := h.ro
  have hc := hr.cell
  have hl := hk.le
  have hl' := hk.le'
  have hz := hr.lt hb
  rcases (by omega : n.kids.length = 0 ∨ n.kids.length = 1) with hl0 | hl0
  · have E : Hid (toldS n = str [109, 97, 107, 101, 40] ++ n.type ++ str [41]) := by
      show _ = _
      rw [toldS_eq]
      simp [h0, hl0]
    rw [E.out] at hm
    simp only [ByteArray.size_append, str_size, List.length_cons, List.length_nil] at hm
    have hq : ((n.kids.length : Int) == 1) = false := by rw [beq_eq_false_iff_ne]; omega
    clear ih hall
    go_enter Tryz.func68, Tryz.ntmps68
    go_wp2_with (first
      | (go_at_call 27; (with_reducible refine (add2_c h _ _ ?hm).mono ?_); (case hm => (show _ + (5 + _) ≤ _; omega)); rintro e w1 ⟨rfl, h1, hf1⟩; have hc1 := h1.ro.cell)
      | (go_at_call 27; (with_reducible refine (add1_c h1 _ ?hm).mono ?_); (case hm => (simp only [ByteArray.size_append, show ByteArray.size ⟨#[109, 97, 107, 101, 40]⟩ = 5 from rfl, show ByteArray.size ⟨#[41]⟩ = 1 from rfl]; omega)); rintro e w2 ⟨rfl, h2, hf2⟩))
    go_end0
    exact ⟨rfl, by rw [E.out]; simpa only [ByteArray.append_assoc, str] using h2, hf1.trans hf2⟩
  · obtain ⟨ad, rfl⟩ := hk.some_ (by omega)
    have hl1 : 0 < n.kids.length := by omega
    have HK := kids_said ih hk hm1 (all_item_of_expr hall) ad rfl 0 hl1
    have E : toldS n = str [109, 97, 107, 101, 40] ++ n.type ++ str [44, 32] ++ toldS n.kids[0] ++ str [41] := by
      rw [toldS_eq]
      simp [h0, hl0, strAt]
    generalize n.kids[0] = k at HK E
    simp only [Nat.zero_mul] at HK
    replace HK : Adds 68 w0 B g d ad (toldS k) := HK
    rw [E] at hm
    simp only [ByteArray.size_append, str_size, List.length_cons, List.length_nil] at hm
    have E := Lib.hid E
    have hq : ((n.kids.length : Int) == 1) = true := by rw [beq_iff_eq]; omega
    have H0 := Lib.hid hl0
    clear ih hall hl0
    go_enter Tryz.func68, Tryz.ntmps68
    go_wp2_with (first
      | (go_at_call 27; (first
          | (with_reducible refine (add2_c h _ _ ?hm).mono ?_); (case hm => (show _ + (5 + _) ≤ _; omega)); rintro e w1 ⟨rfl, h1, hf1⟩; have hc1 := h1.ro.cell
          | (with_reducible refine (add1_c h1 _ ?hm).mono ?_); (case hm => (show _ + 2 ≤ _; simp only [ByteArray.size_append, show ByteArray.size ⟨#[109, 97, 107, 101, 40]⟩ = 5 from rfl]; omega)); rintro e w2 ⟨rfl, h2, hf2⟩; have hc2 := h2.ro.cell
          | (with_reducible refine (add1_c h3 _ ?hm).mono ?_); (case hm => (show _ + 1 ≤ _; simp only [ByteArray.size_append, show ByteArray.size ⟨#[109, 97, 107, 101, 40]⟩ = 5 from rfl, show ByteArray.size ⟨#[44, 32]⟩ = 2 from rfl]; omega)); rintro e w4 ⟨rfl, h4, hf4⟩))
      | (go_at_call 68; (with_reducible refine (HK _ _ h2 ?hm).mono ?_); (case hm => (simp only [ByteArray.size_append, show ByteArray.size ⟨#[109, 97, 107, 101, 40]⟩ = 5 from rfl, show ByteArray.size ⟨#[44, 32]⟩ = 2 from rfl]; omega)); rintro e w3 ⟨rfl, h3, hf3⟩))
    go_end0
    exact ⟨rfl, by rw [E.out]; simpa only [ByteArray.append_assoc, str] using h4, (hf1.trans hf2).trans (hf3.trans hf4)⟩
end Go.Proofs.YtjdeomenioagdaaGreatDoor
