/- Expressions are written, by the program: two operands; calls. -/
import Derived.Test.YtjdeomenioagdaaGreatDoorWexpr4
set_option linter.unusedVariables false
set_option linter.unusedSimpArgs false
namespace Go.Proofs.YtjdeomenioagdaaGreatDoor
open Go.RowKit
set_option maxHeartbeats 40000000 in
set_option maxRecDepth 100000 in
theorem wexpr_call {w0 w : World} {B g : Nat} {d : Option Int} {s : ByteArray} {a : Addr} {n : Node} {m : Nat} (ih : WExprIH w0 B g d m) (hn : NodeAt w0 B a n) (hm1 : n.size ≤ m + 1) (h0 : n.kind = 28) (hall : n.kids.all (itemB true) = true)
    (h : St w0 B g d s w) (hm : s.size + (toldS n).size ≤ 140737488355328) :
    Calls Tryz.prog 68 #[.pointer (some ⟨g, 0, none⟩), .pointer (some a)] w fun e w' => e = .returned (.tuple #[]) ∧ St w0 B g d (s ++ toldS n) w' ∧ Wf g w w' := by
  obtain ⟨A, c, hb, c0, c1, c2, c3, c7, hk⟩ := hn.open_
  have hr := h.ro
  have hc := hr.cell
  have hl := hk.le
  have hl' := hk.le'
  have hz := hr.lt hb
  have HK := kids_said ih hk hm1 hall
  have E : Hid (toldS n = n.text ++ str [40] ++ listS n.kids ++ str [41]) := by
    show _ = _
    rw [toldS_eq]
    simp [h0]
  rw [E.out] at hm
  simp only [ByteArray.size_append, str_size, List.length_cons, List.length_nil] at hm
  clear ih hall
  go_enter Tryz.func68, Tryz.ntmps68
  go_wp2_with (first
    | (go_at_call 27; (with_reducible refine (add2_c h _ _ ?hm).mono ?_); (case hm => (show _ + (_ + 1) ≤ _; omega)); rintro e w1 ⟨rfl, h1, hf1⟩; have hc1 := h1.ro.cell)
    | (go_at_call 117; (with_reducible refine (list_c hk HK h1 ?hm).mono ?_); (case hm => (simp only [ByteArray.size_append, show ByteArray.size ⟨#[40]⟩ = 1 from rfl]; omega)); rintro e w2 ⟨rfl, h2, hf2⟩)
    | (go_at_call 27; (with_reducible refine (add1_c h2 _ ?hm).mono ?_); (case hm => (simp only [ByteArray.size_append, show ByteArray.size ⟨#[40]⟩ = 1 from rfl, show ByteArray.size ⟨#[41]⟩ = 1 from rfl]; omega)); rintro e w3 ⟨rfl, h3, hf3⟩))
  go_end0
  exact ⟨rfl, by rw [E.out]; simpa only [ByteArray.append_assoc, str] using h3, hf1.trans (hf2.trans hf3)⟩
set_option maxHeartbeats 40000000 in
set_option maxRecDepth 100000 in
theorem wexpr_binary {w0 w : World} {B g : Nat} {d : Option Int} {s : ByteArray} {a : Addr} {n : Node} {m : Nat} (ih : WExprIH w0 B g d m) (hn : NodeAt w0 B a n) (hm1 : n.size ≤ m + 1) (h0 : n.kind = 27) (h1 : n.kids.length = 2) (hall : n.kids.all exprB = true)
    (h : St w0 B g d s w) (hm : s.size + (toldS n).size ≤ 140737488355328) :
    Calls Tryz.prog 68 #[.pointer (some ⟨g, 0, none⟩), .pointer (some a)] w fun e w' => e = .returned (.tuple #[]) ∧ St w0 B g d (s ++ toldS n) w' ∧ Wf g w w' := by
  obtain ⟨A, c, hb, c0, c1, c2, c3, c7, hk⟩ := hn.open_
  have hr := h.ro
  have hc := hr.cell
  have hl := hk.le
  have hl' := hk.le'
  have hz := hr.lt hb
  obtain ⟨ad, rfl⟩ := hk.some_ (by omega)
  have hl1 : 0 < n.kids.length := by omega
  have hl2 : 1 < n.kids.length := by omega
  have HK := kids_said ih hk hm1 (all_item_of_expr hall) ad rfl 0 hl1
  have HJ := kids_said ih hk hm1 (all_item_of_expr hall) ad rfl 1 hl2
  have hkn := hk.at_ ad rfl 0 hl1
  have hjn := hk.at_ ad rfl 1 hl2
  rw [add_fld ad (by omega : 1 * 8 ≠ 0)] at hjn
  rw [add_fld ad (by omega : 1 * 8 ≠ 0)] at HJ
  have E : toldS n = heldS (n.kids[0].kind == 27 && decide (bindsI n.kids[0].text < bindsI n.text)) (toldS n.kids[0]) ++ str [32] ++ n.text ++ str [32] ++ heldS (n.kids[1].kind == 27 && decide (bindsI n.kids[1].text ≤ bindsI n.text)) (toldS n.kids[1]) := by
    rw [toldS_eq]
    simp [h0, kindAt, textAt, strAt, hl1, hl2]
  generalize n.kids[0] = k at HK hkn E
  generalize n.kids[1] = j at HJ hjn E
  simp only [Nat.zero_mul] at HK hkn
  replace HK : Adds 68 w0 B g d ad (toldS k) := HK
  replace hkn : NodeAt w0 B ad k := hkn
  obtain ⟨A', c', kb, k0, k1, k2, k3, k7, _⟩ := hkn.open_
  obtain ⟨A'', c'', jb, j0, j1, j2, j3, j7, _⟩ := hjn.open_
  have H1 := Lib.hid h1
  have tk : ((k.kind == 27) = true ∧ decide (bindsI k.text < bindsI n.text) = true) ∨ ((k.kind == 27) = true ∧ decide (bindsI k.text < bindsI n.text) = false) ∨ (k.kind == 27) = false := by
    cases (k.kind == 27) <;> cases decide (bindsI k.text < bindsI n.text) <;> simp
  have tj : ((j.kind == 27) = true ∧ decide (bindsI j.text ≤ bindsI n.text) = true) ∨ ((j.kind == 27) = true ∧ decide (bindsI j.text ≤ bindsI n.text) = false) ∨ (j.kind == 27) = false := by
    cases (j.kind == 27) <;> cases decide (bindsI j.text ≤ bindsI n.text) <;> simp
  rcases tk with ⟨p1, p2⟩ | ⟨p1, p2⟩ | p1 <;> rcases tj with ⟨q1, q2⟩ | ⟨q1, q2⟩ | q1
  all_goals simp only [p1, q1, Bool.true_and, Bool.false_and] at E
  all_goals (try simp only [p2] at E)
  all_goals (try simp only [q2] at E)
  all_goals rw [E] at hm
  all_goals simp only [ByteArray.size_append, str_size, List.length_cons, List.length_nil] at hm
  all_goals (have E := Lib.hid E)
  all_goals clear ih hall
  all_goals go_enter Tryz.func68, Tryz.ntmps68
  all_goals (have hD := h.drew)
  all_goals (have hcD := hD.ro.cell)
  all_goals go_wp2_with (go_at_call 102; (with_reducible refine (binds_c _ _).mono ?_); rintro e w1 ⟨rfl, rfl⟩)
  all_goals go_region
  all_goals go_wp2_with (first
    | (go_at_call 102; (with_reducible refine (binds_c _ _).mono ?_); rintro e w1 ⟨rfl, rfl⟩)
    | (go_at_call 116; (first
        | (with_reducible refine (hold_c _ HK hD ?hm).mono ?_); (case hm => omega); rintro e w1 ⟨rfl, h1, hf1⟩; have hc1 := h1.ro.cell
        | (with_reducible refine (hold_c _ HJ h2 ?hm).mono ?_); (case hm => (simp only [ByteArray.size_append, show ByteArray.size ⟨#[32]⟩ = 1 from rfl]; omega)); rintro e w3 ⟨rfl, h3, hf3⟩))
    | (go_at_call 27; (with_reducible refine (add3_c h1 _ _ _ ?hm).mono ?_); (case hm => (show _ + (1 + _ + 1) ≤ _; simp only [ByteArray.size_append]; omega)); rintro e w2 ⟨rfl, h2, hf2⟩; have hc2 := h2.ro.cell))
  all_goals go_end0
  all_goals exact ⟨rfl, by rw [E.out]; simpa only [ByteArray.append_assoc, str] using h3, ((Wf.refl g w).drew.trans hf1).trans (hf2.trans hf3)⟩
end Go.Proofs.YtjdeomenioagdaaGreatDoor
