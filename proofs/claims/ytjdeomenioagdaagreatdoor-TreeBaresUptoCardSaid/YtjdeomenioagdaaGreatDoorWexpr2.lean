/- Expressions are written, by the program: the cases. -/
import Derived.Test.YtjdeomenioagdaaGreatDoorWexpr
set_option linter.unusedVariables false
set_option linter.unusedSimpArgs false
namespace Go.Proofs.YtjdeomenioagdaaGreatDoor
open Go.RowKit
theorem itemB_of_expr {k : Node} (h : exprB k = true) : itemB true k = true := by
  unfold itemB
  by_cases h25 : k.kind = 25
  · rw [exprB_eq] at h
    simp [h25, leafB] at h
  · simp [h25, h]
theorem sign_four {t : ByteArray} (h : signB t = true) : t.toList = [43] ∨ t.toList = [45] ∨ t.toList = [33] ∨ t.toList = [60, 45] := by
  simp only [signB, isT, Bool.or_eq_true, beq_iff_eq] at h
  grind
/-- strings.Contains("+-", t) of a sign. -/
theorem pm_c {w0 w : World} {B : Nat} (t : ByteArray) (h : signB t = true) (he : Env w0 B) (hr : Ro w0 B w) :
    Calls Tryz.prog 115 #[.string ⟨#[43, 45]⟩, .string t] w fun e w' => e = .returned (.bool (plusB t)) ∧ w' = w := by
  obtain ⟨m, hm⟩ := he.max
  refine (Tryz.strings_Contains ⟨#[43, 45]⟩ t m w (by decide) (hm w hr)).mono ?_
  rintro e w' ⟨rfl, rfl⟩
  refine ⟨ret_bool ?_, rfl⟩
  have hd : t.data.toList = t.toList := (data_list t).symm ▸ rfl
  rw [hd]
  rcases sign_four h with h | h | h | h <;> rw [plusB, isT, isT, h] <;> decide
/-- What the walk of a written expression knows of its node. -/
theorem item_cases (n : Node) (h : itemB true n = true) : n.kind = 21 ∨ n.kind = 22 ∨ (n.kind = 23 ∧ (n.n = 0 ∨ n.n = 1)) ∨ n.kind = 24 ∨ n.kind = 25 ∨
    (n.kind = 26 ∧ n.kids.length = 1 ∧ signB n.text = true ∧ n.kids.all exprB = true) ∨ (n.kind = 27 ∧ n.kids.length = 2 ∧ n.kids.all exprB = true) ∨ (n.kind = 28 ∧ n.kids.all (itemB true) = true) ∨
    (n.kind = 29 ∧ n.kids.length ≤ 1 ∧ n.kids.all exprB = true) ∨ (n.kind = 30 ∧ 1 ≤ n.kids.length ∧ n.kids.all exprB = true) := by
  unfold itemB at h
  by_cases h25 : n.kind = 25
  · exact .inr (.inr (.inr (.inr (.inl h25))))
  rw [if_neg (by simp [h25]), exprB_eq] at h
  by_cases h26 : n.kind = 26
  · simp [h26, exprsB_no] at h
    simp [h26]; grind
  by_cases h27 : n.kind = 27
  · simp [h27, exprsB_no] at h
    simp [h27]; grind
  by_cases h28 : n.kind = 28
  · simp only [h28] at h
    simp [callB, exprsB_all] at h
    have h2 := h.1.2
    right; right; right; right; right; right; right; left
    refine ⟨h28, ?_⟩
    rw [List.all_eq_true]
    intro k hk
    have := h2 k hk
    by_cases hp : isT n.text [112, 114, 105, 110, 116, 108, 110] = true
    · rw [hp] at this; exact this
    · rw [Bool.not_eq_true] at hp
      rw [hp] at this
      exact itemB_of_expr (by simpa [itemB] using this)
  by_cases h29 : n.kind = 29
  · simp [h29, exprsB_no] at h
    simp [h29]; grind
  by_cases h30 : n.kind = 30
  · simp [h30, exprsB_no] at h
    simp [h30]; grind
  simp [h26, h27, h28, h29, h30, leafB] at h
  grind
end Go.Proofs.YtjdeomenioagdaaGreatDoor
