/- Simple statements, by the program. -/
import Derived.Test.YtjdeomenioagdaaGreatDoorLets
set_option linter.unusedVariables false
set_option linter.unusedSimpArgs false
namespace Go.Proofs.YtjdeomenioagdaaGreatDoor
open Go.RowKit
theorem name21 (k : Node) : (k.kind == 21 && leafB k) = (k.kind == 21 && exprB k) := by
  by_cases h : k.kind = 21
  · rw [exprB_eq]; simp [h]
  · rw [beq_eq_false_iff_ne.2 h]; rfl
set_option maxHeartbeats 40000000 in
set_option maxRecDepth 100000 in
theorem simple8_c {w0 w : World} {B : Nat} {a : Addr} {n : Node} (hn : NodeAt w0 B a n) (hr : Ro w0 B w) (h8 : n.kind = 8) :
    Calls Tryz.prog 66 #[.pointer (some a)] w fun e w' => e = .returned (.bool (simpleB n)) ∧ Ro w0 B w' := by
  obtain ⟨A, c, hb, c0, c1, c2, c3, c7, hk⟩ := hn.open_
  have hc := hr.cell
  have hl := hk.le
  have hl' := hk.le'
  by_cases h1 : n.kids.length = 1
  · obtain ⟨ad, rfl⟩ := hk.some_ (by omega)
    have hkid := kid0_at hk (by omega)
    have hl1 : 0 < n.kids.length := by omega
    have hl2 : ((n.kids.length : Int) == 1) = true := by rw [beq_iff_eq]; omega
    have E : Hid (simpleB n = ((n.n == 1 || n.n == -1) && bareB n false false true && ((n.kids[0].kind == 21) && exprB n.kids[0]))) := by
      show _ = _
      have hk0 : ∀ p, kidB n 0 p = p (n.kids[0]) := fun p => kidB_at (by omega)
      unfold simpleB
      simp only [hk0, name21]
      simp only [h8, h1]
      simp
      grind
    generalize n.kids[0] = k0 at hkid E
    obtain ⟨A', c', hb', d0, _, _, _, _, _⟩ := hkid.open_
    clear h1
    go_enter Tryz.func66, Tryz.ntmps66
    go_wp2_with (first
      | (go_at_call 24; (with_reducible refine (has_c4 hn ?hr).mono ?_); (case hr => assumption); rintro e w' ⟨rfl, rfl⟩)
      | (go_at_call 62; (with_reducible refine (expr_c hkid ?hr).mono ?_); (case hr => assumption); rintro e w1 ⟨rfl, hr1⟩))
    all_goals go_ret
    all_goals refine ⟨ret_bool ?_, by assumption⟩
    all_goals go_light
    all_goals rw [E.out]
    all_goals first | (simp [*]; done) | (simp_all; done) | grind
  · have hl2 : ((n.kids.length : Int) == 1) = false := by rw [beq_eq_false_iff_ne]; omega
    have E : Hid (simpleB n = false) := by
      show _ = _
      unfold simpleB
      simp [h8, h1]
    go_enter Tryz.func66, Tryz.ntmps66
    go_wp2_with (go_at_call 24; (with_reducible refine (has_c4 hn ?hr).mono ?_); (case hr => assumption); rintro e w' ⟨rfl, rfl⟩)
    all_goals go_ret
    all_goals refine ⟨ret_bool ?_, by assumption⟩
    all_goals go_light
    all_goals rw [E.out]
    all_goals first | (simp [*]; done) | (simp_all; done) | grind
set_option maxHeartbeats 40000000 in
set_option maxRecDepth 100000 in
theorem simple9_c {w0 w : World} {B : Nat} {a : Addr} {n : Node} (hn : NodeAt w0 B a n) (hr : Ro w0 B w) (h8 : n.kind = 9) :
    Calls Tryz.prog 66 #[.pointer (some a)] w fun e w' => e = .returned (.bool (simpleB n)) ∧ Ro w0 B w' := by
  obtain ⟨A, c, hb, c0, c1, c2, c3, c7, hk⟩ := hn.open_
  have hc := hr.cell
  have hl := hk.le
  have hl' := hk.le'
  have E : Hid (simpleB n = ((lenI n == 2) && bareB n false false false && exprsB false n.kids)) := by
    show _ = _
    unfold simpleB
    rw [lenI_two]
    simp [h8]
    grind
  go_enter Tryz.func66, Tryz.ntmps66
  go_wp2_with (first
    | (go_at_call 24; (with_reducible refine (has_c0 hn ?hr).mono ?_); (case hr => assumption); rintro e w' ⟨rfl, rfl⟩)
    | (go_at_call 25; (with_reducible refine (exprs_c hk ?hr).mono ?_); (case hr => assumption); rintro e w1 ⟨rfl, hr1⟩))
  all_goals go_ret
  all_goals refine ⟨ret_bool ?_, by assumption⟩
  all_goals go_light
  all_goals rw [E.out]
  all_goals first | (simp [lenI, *]; done) | (simp_all; done) | grind
set_option maxHeartbeats 40000000 in
set_option maxRecDepth 100000 in
theorem simple10_c {w0 w : World} {B : Nat} {a : Addr} {n : Node} (hn : NodeAt w0 B a n) (hr : Ro w0 B w) (h8 : n.kind = 10) :
    Calls Tryz.prog 66 #[.pointer (some a)] w fun e w' => e = .returned (.bool (simpleB n)) ∧ Ro w0 B w' := by
  obtain ⟨A, c, hb, c0, c1, c2, c3, c7, hk⟩ := hn.open_
  have hc := hr.cell
  have hl := hk.le
  have hl' := hk.le'
  by_cases h1 : n.kids.length = 1
  · obtain ⟨ad, rfl⟩ := hk.some_ (by omega)
    have hkid := kid0_at hk (by omega)
    have hl1 : 0 < n.kids.length := by omega
    have hl2 : ((n.kids.length : Int) != 1) = false := by rw [bne_eq_false_iff_eq]; omega
    have E : Hid (simpleB n = (bareB n false false false && (n.kids[0].kind == 28 || n.kids[0].kind == 30 || recvB n.kids[0]) && exprB n.kids[0])) := by
      show _ = _
      have hk0 : ∀ p, kidB n 0 p = p (n.kids[0]) := fun p => kidB_at (by omega)
      unfold simpleB
      simp only [h8, h1, hk0]
      simp
      grind
    generalize n.kids[0] = k0 at hkid E
    obtain ⟨A', c', hb', d0, _, _, _, _, _⟩ := hkid.open_
    clear h1
    go_enter Tryz.func66, Tryz.ntmps66
    go_wp2_with (first
      | (go_at_call 24; (with_reducible refine (has_c0 hn ?hr).mono ?_); (case hr => assumption); rintro e w' ⟨rfl, rfl⟩)
      | (go_at_call 110; (with_reducible refine (recv_c hkid ?hr).mono ?_); (case hr => assumption); rintro e w' ⟨rfl, rfl⟩)
      | (go_at_call 62; (with_reducible refine (expr_c hkid ?hr).mono ?_); (case hr => assumption); rintro e w1 ⟨rfl, hr1⟩))
    all_goals go_ret
    all_goals refine ⟨ret_bool ?_, by assumption⟩
    all_goals go_light
    all_goals rw [E.out]
    all_goals first | (simp [*]; done) | (simp_all; done) | grind
  · have hl2 : ((n.kids.length : Int) != 1) = true := by rw [bne_iff_ne]; omega
    have E : Hid (simpleB n = false) := by
      show _ = _
      unfold simpleB
      simp [h8, h1]
    go_enter Tryz.func66, Tryz.ntmps66
    go_wp2_with (go_at_call 24; (with_reducible refine (has_c0 hn ?hr).mono ?_); (case hr => assumption); rintro e w' ⟨rfl, rfl⟩)
    all_goals go_ret
    all_goals refine ⟨ret_bool ?_, by assumption⟩
    all_goals go_light
    all_goals rw [E.out]
    all_goals first | (simp [*]; done) | (simp_all; done) | grind
set_option maxHeartbeats 40000000 in
set_option maxRecDepth 100000 in
theorem simple_c {w0 w : World} {B : Nat} {a : Addr} {n : Node} (hn : NodeAt w0 B a n) (hr : Ro w0 B w) :
    Calls Tryz.prog 66 #[.pointer (some a)] w fun e w' => e = .returned (.bool (simpleB n)) ∧ Ro w0 B w' := by
  by_cases h67 : n.kind = 6 ∨ n.kind = 7
  · have e : simpleB n = letsB n := by unfold simpleB; rcases h67 with h | h <;> simp [h]
    rw [e]
    exact lets_c hn hr h67
  by_cases h8 : n.kind = 8
  · exact simple8_c hn hr h8
  by_cases h9 : n.kind = 9
  · exact simple9_c hn hr h9
  by_cases h10 : n.kind = 10
  · exact simple10_c hn hr h10
  have E : Hid (simpleB n = false) := by
    show _ = _
    have h6 : ¬ n.kind = 6 := fun h => h67 (.inl h)
    have h7 : ¬ n.kind = 7 := fun h => h67 (.inr h)
    unfold simpleB
    simp [h6, h7, h8, h9, h10]
  have k6 : (n.kind == 6) = false := by rw [beq_eq_false_iff_ne]; exact fun h => h67 (.inl h)
  have k7 : (n.kind == 7) = false := by rw [beq_eq_false_iff_ne]; exact fun h => h67 (.inr h)
  have k8 : (n.kind == 8) = false := by rw [beq_eq_false_iff_ne]; exact h8
  have k9 : (n.kind == 9) = false := by rw [beq_eq_false_iff_ne]; exact h9
  have k10 : (n.kind == 10) = false := by rw [beq_eq_false_iff_ne]; exact h10
  clear h67 h8 h9 h10
  obtain ⟨A, c, hb, c0, c1, c2, c3, c7, hk⟩ := hn.open_
  have hc := hr.cell
  have hl := hk.le
  have hl' := hk.le'
  go_enter Tryz.func66, Tryz.ntmps66
  go_wp2_with fail
  go_ret
  exact ⟨ret_bool E.out.symm, hr⟩
end Go.Proofs.YtjdeomenioagdaaGreatDoor
