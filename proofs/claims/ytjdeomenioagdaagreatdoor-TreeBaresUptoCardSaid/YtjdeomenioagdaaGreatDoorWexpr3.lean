/- Expressions are written, by the program: the walk. -/
import Derived.Test.YtjdeomenioagdaaGreatDoorWexpr2
set_option linter.unusedVariables false
set_option linter.unusedSimpArgs false
namespace Go.Proofs.YtjdeomenioagdaaGreatDoor
open Go.RowKit
/-- The writer's expr at trees of at most m nodes. -/
def WExprIH (w0 : World) (B g : Nat) (d : Option Int) (m : Nat) : Prop := ∀ n a, NodeAt w0 B a n → itemB true n = true → n.size ≤ m → Adds 68 w0 B g d a (toldS n)
theorem kids_said {w0 : World} {B g : Nat} {d : Option Int} {A : Option Addr} {n : Node} {c m : Nat} (ih : WExprIH w0 B g d m) (hk : KidsAt w0 B A n.kids c) (hm : n.size ≤ m + 1) (hall : n.kids.all (itemB true) = true) :
    ∀ ad, A = some ad → ∀ i (h : i < n.kids.length), Adds 68 w0 B g d (ad.add (i * 8)) (toldS n.kids[i]) := by
  intro ad hA i h
  have := n.size_kid (List.getElem_mem h)
  exact ih _ _ (hk.at_ ad hA i h) (List.all_eq_true.1 hall _ (List.getElem_mem h)) (by omega)
theorem all_item_of_expr {l : List Node} (h : l.all exprB = true) : l.all (itemB true) = true := by
  rw [List.all_eq_true] at h ⊢
  exact fun k hk => itemB_of_expr (h k hk)
theorem add1b_c {w0 w : World} {B g : Nat} {d : Option Int} {s : ByteArray} (h : St w0 B g d s w) (o : Obj) (u : ByteArray) (hm : s.size + u.size ≤ 140737488355328) :
    Calls Tryz.prog 27 #[.pointer (some ⟨g, 0, none⟩), .slice (some ⟨w.heap.size + 1, 0, none⟩) 1 1] ((w.alloc o).alloc (.cells #[.string u] 9)) fun e w' => e = .returned (.tuple #[]) ∧ St w0 B g d (s ++ u) w' ∧ Wf g w w' := by
  have h1 := add1_c (h.alloc o) u hm
  rw [show (w.alloc o).heap.size = w.heap.size + 1 from by simp] at h1
  exact h1.mono fun e w' hp => ⟨hp.1, hp.2.1, ((Wf.refl g w).alloc o).trans hp.2.2⟩
set_option maxHeartbeats 40000000 in
set_option maxRecDepth 100000 in
theorem wexpr_leaf {w0 w : World} {B g : Nat} {d : Option Int} {s : ByteArray} {a : Addr} {n : Node} (he : Env w0 B) (hn : NodeAt w0 B a n) (hk : n.kind = 21 ∨ n.kind = 22 ∨ (n.kind = 23 ∧ (n.n = 0 ∨ n.n = 1)) ∨ n.kind = 24 ∨ n.kind = 25)
    (h : St w0 B g d s w) (hm : s.size + (toldS n).size ≤ 140737488355328) :
    Calls Tryz.prog 68 #[.pointer (some ⟨g, 0, none⟩), .pointer (some a)] w fun e w' => e = .returned (.tuple #[]) ∧ St w0 B g d (s ++ toldS n) w' ∧ Wf g w w' := by
  have hcase := hk
  clear hk
  obtain ⟨A, c, hb, c0, c1, c2, c3, c7, hk⟩ := hn.open_
  have hr := h.ro
  have hc := hr.cell
  have hl := hk.le
  have hl' := hk.le'
  have hz := hr.lt hb
  have ht := hn.text_le
  obtain ⟨hi1, hi2⟩ := hn.int64
  have HT := he.tab w hr
  rcases hcase with h0 | h0 | ⟨h0, h1 | h1⟩ | h0 | h0
  · have E : Hid (toldS n = n.text) := by show _ = _; rw [toldS_eq]; simp [h0]
    rw [E.out] at hm
    go_enter Tryz.func68, Tryz.ntmps68
    go_wp2_with (go_at_call 27; (with_reducible refine (add1_c h _ ?hm).mono ?_); (case hm => exact hm); rintro e w1 ⟨rfl, h1, hf1⟩)
    go_end0
    exact ⟨rfl, by rw [E.out]; exact h1, hf1⟩
  · have E : Hid (toldS n = intS n.n) := by show _ = _; rw [toldS_eq]; simp [h0]
    rw [E.out] at hm
    go_enter Tryz.func68, Tryz.ntmps68
    go_wp2_with (first
      | (go_at_call 113; (with_reducible refine (int_c _ hi1 hi2 HT).mono ?_); rintro e w1 ⟨rfl, hb1⟩)
      | (go_at_call 27; (with_reducible refine (add1_c (h.below hb1) _ ?hm).mono ?_); (case hm => exact hm); rintro e w2 ⟨rfl, h2, hf2⟩))
    go_end0
    exact ⟨rfl, by rw [E.out]; exact h2, (Wf.below hb1).trans hf2⟩
  · have E : Hid (toldS n = str [102, 97, 108, 115, 101]) := by show _ = _; rw [toldS_eq]; simp [h0, h1]
    rw [E.out] at hm
    rw [h1] at c2
    go_enter Tryz.func68, Tryz.ntmps68
    go_wp2_with (go_at_call 27; (with_reducible refine (add1b_c h _ _ ?hm).mono ?_); (case hm => exact hm); rintro e w1 ⟨rfl, h1, hf1⟩)
    go_end0
    exact ⟨rfl, by rw [E.out]; exact h1, hf1⟩
  · have E : Hid (toldS n = str [116, 114, 117, 101]) := by show _ = _; rw [toldS_eq]; simp [h0, h1]
    rw [E.out] at hm
    rw [h1] at c2
    go_enter Tryz.func68, Tryz.ntmps68
    go_wp2_with (go_at_call 27; (with_reducible refine (add1b_c h _ _ ?hm).mono ?_); (case hm => exact hm); rintro e w1 ⟨rfl, h1, hf1⟩)
    go_end0
    exact ⟨rfl, by rw [E.out]; exact h1, hf1⟩
  · have E : Hid (toldS n = str [110, 105, 108]) := by show _ = _; rw [toldS_eq]; simp [h0]
    rw [E.out] at hm
    go_enter Tryz.func68, Tryz.ntmps68
    go_wp2_with (go_at_call 27; (with_reducible refine (add1_c h _ ?hm).mono ?_); (case hm => exact hm); rintro e w1 ⟨rfl, h1, hf1⟩)
    go_end0
    exact ⟨rfl, by rw [E.out]; exact h1, hf1⟩
  · have E : Hid (toldS n = quoteS n.text) := by show _ = _; rw [toldS_eq]; simp [h0]
    rw [E.out] at hm
    go_enter Tryz.func68, Tryz.ntmps68
    go_wp2_with (first
      | (go_at_call 114; (with_reducible refine (quote_c _ ht).mono ?_); rintro e w1 ⟨rfl, hb1⟩)
      | (go_at_call 27; (with_reducible refine (add1_c (h.below hb1) _ ?hm).mono ?_); (case hm => exact hm); rintro e w2 ⟨rfl, h2, hf2⟩))
    go_end0
    exact ⟨rfl, by rw [E.out]; exact h2, (Wf.below hb1).trans hf2⟩
end Go.Proofs.YtjdeomenioagdaaGreatDoor
