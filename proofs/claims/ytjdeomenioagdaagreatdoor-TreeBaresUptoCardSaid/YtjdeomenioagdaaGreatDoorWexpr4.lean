/- Expressions are written, by the program: a sign, two operands. -/
import Derived.Test.YtjdeomenioagdaaGreatDoorWexpr3
set_option linter.unusedVariables false
set_option linter.unusedSimpArgs false
namespace Go.Proofs.YtjdeomenioagdaaGreatDoor
open Go.RowKit
theorem heldS_le (b : Bool) (t : ByteArray) : (heldS b t).size ≤ t.size + 2 := by
  cases b
  · show t.size ≤ _; omega
  · simp only [heldS, if_true, ByteArray.size_append, str_size, List.length_cons, List.length_nil]; omega
set_option maxHeartbeats 40000000 in
set_option maxRecDepth 100000 in
theorem wexpr_unary {w0 w : World} {B g : Nat} {d : Option Int} {s : ByteArray} {a : Addr} {n : Node} {m : Nat} (he : Env w0 B) (ih : WExprIH w0 B g d m) (hn : NodeAt w0 B a n) (hm1 : n.size ≤ m + 1) (h0 : n.kind = 26) (h1 : n.kids.length = 1) (hsg : signB n.text = true) (hall : n.kids.all exprB = true)
    (h : St w0 B g d s w) (hm : s.size + (toldS n).size ≤ 140737488355328) :
    Calls Tryz.prog 68 #[.pointer (some ⟨g, 0, none⟩), .pointer (some a)] w fun e w' => e = .returned (.tuple #[]) ∧ St w0 B g d (s ++ toldS n) w' ∧ Wf g w w' := by
  obtain ⟨A, c, hb, c0, c1, c2, c3, c7, hk⟩ := hn.open_
  have hr := h.ro
  have hc := hr.cell
  have hl := hk.le
  have hl' := hk.le'
  have hz := hr.lt hb
  obtain ⟨ad, rfl⟩ := hk.some_ (by omega)
  have hl1 : 0 < n.kids.length := by omega
  have HK := kids_said ih hk hm1 (all_item_of_expr hall) ad rfl 0 hl1
  have hkn := hk.at_ ad rfl 0 hl1
  have hek : exprB n.kids[0] = true := List.all_eq_true.1 hall _ (List.getElem_mem hl1)
  have E : toldS n = n.text ++ heldS (plusB n.text && n.kids[0].kind == 26 && plusB n.kids[0].text || n.kids[0].kind == 27) (toldS n.kids[0]) := by
    rw [toldS_eq]
    simp [h0, kindAt, textAt, strAt, hl1]
  generalize n.kids[0] = k at HK hkn hek E
  simp only [Nat.zero_mul] at HK hkn
  replace HK : Adds 68 w0 B g d ad (toldS k) := HK
  replace hkn : NodeAt w0 B ad k := hkn
  obtain ⟨A', c', kb, k0, k1, k2, k3, k7, _⟩ := hkn.open_
  have hks : k.kind = 26 → signB k.text = true := by
    intro hh
    rw [exprB_eq] at hek
    simp [hh] at hek
    exact hek.1.1.1
  have H1 := Lib.hid h1
  have tp1 : plusB n.text = true ∨ plusB n.text = false := by cases plusB n.text <;> simp
  have tk : (k.kind = 26 ∧ (k.kind == 26) = true ∧ (k.kind == 27) = false) ∨ ((k.kind == 26) = false ∧ (k.kind == 27) = true) ∨ ((k.kind == 26) = false ∧ (k.kind == 27) = false) := by
    by_cases q : k.kind = 26
    · left; simp [q]
    · by_cases q' : k.kind = 27
      · right; left; simp [q']
      · right; right; simp [q, q']
  have tp2 : plusB k.text = true ∨ plusB k.text = false := by cases plusB k.text <;> simp
  have HP := fun t hs w hr => pm_c (w0 := w0) (B := B) (w := w) t hs he hr
  have HE := Lib.hid E
  have hsz := fun b => heldS_le b (toldS k)
  rcases tp1 with p1 | p1 <;> rcases tk with ⟨q0, q1, q2⟩ | ⟨q1, q2⟩ | ⟨q1, q2⟩ <;> rcases tp2 with p2 | p2
  all_goals simp only [p1, q1, p2, q2, Bool.and_true, Bool.true_and, Bool.and_false, Bool.false_and, Bool.or_true, Bool.or_false, Bool.true_or, Bool.false_or] at E
  all_goals rw [E] at hm
  all_goals rw [ByteArray.size_append] at hm
  all_goals (have E := Lib.hid E)
  all_goals clear HE hsz
  all_goals (have hc := hr.cell)
  all_goals (try have HS := hks q0)
  all_goals clear hks ih hek hall
  all_goals go_enter Tryz.func68, Tryz.ntmps68
  all_goals go_wp2_with (first
    | (go_at_call 115; (first
        | (with_reducible refine (HP _ hsg _ ?hr).mono ?_)
        | (with_reducible refine (HP _ HS _ ?hr).mono ?_)); (case hr => assumption); rintro e w' ⟨rfl, rfl⟩)
    | (go_at_call 27; (with_reducible refine (add1_c h _ ?hm).mono ?_); (case hm => omega); rintro e w1 ⟨rfl, h1, hf1⟩; have hc1 := h1.ro.cell)
    | (go_at_call 116; (with_reducible refine (hold_c _ HK h1 ?hm).mono ?_); (case hm => (rw [ByteArray.size_append]; omega)); rintro e w2 ⟨rfl, h2, hf2⟩))
  all_goals go_end0
  all_goals exact ⟨rfl, by rw [E.out]; simpa only [ByteArray.append_assoc] using h2, hf1.trans hf2⟩
end Go.Proofs.YtjdeomenioagdaaGreatDoor
