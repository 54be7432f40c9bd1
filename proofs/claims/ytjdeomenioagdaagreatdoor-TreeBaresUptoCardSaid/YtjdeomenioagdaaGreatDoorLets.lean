/- Definitions and assignments, by the program. -/
import Derived.Test.YtjdeomenioagdaaGreatDoorSimple
set_option linter.unusedVariables false
set_option linter.unusedSimpArgs false
namespace Go.Proofs.YtjdeomenioagdaaGreatDoor
open Go.RowKit
set_option maxHeartbeats 40000000 in
set_option maxRecDepth 100000 in
theorem lets_no1 {w0 w : World} {B : Nat} {a : Addr} {n : Node} (hn : NodeAt w0 B a n) (hr : Ro w0 B w) (h67 : n.kind = 6 ∨ n.kind = 7) (hN : (n.n != 1) = true) (hN' : (n.n != 2) = true) :
    Calls Tryz.prog 66 #[.pointer (some a)] w fun e w' => e = .returned (.bool (letsB n)) ∧ Ro w0 B w' := by
  obtain ⟨A, c, hb, c0, c1, c2, c3, c7, hk⟩ := hn.open_
  have hc := hr.cell
  haveI hne : Nonempty (RoW w0 B) := ⟨⟨w, hr⟩⟩
  have hcq : ∀ (p : RoW w0 B) (a : Addr), a.block < B → p.w.cell? a = w0.cell? a := fun p a h => p.cell a h
  have hl := hk.le
  have hl' := hk.le'
  have E : Hid (letsB n = false) := by
    show _ = _
    rw [bne_iff_ne] at hN hN'
    simp [letsB, hN, hN']
  rcases h67 with hkd | hkd
  all_goals go_enter Tryz.func66, Tryz.ntmps66
  all_goals go_wp2_with fail
  all_goals refine wp_region_ro hr (by kernel_rfl) (by kernel_rfl) ?_
  all_goals repeat (any_goals (first
    | go_big_quiet_step (first
      | (go_at_call 24; exact Calls.ro_same (has_c4 hn (RoW.ro _)))
      | (go_at_call 25; exact Calls.ro_of (all_target (hk.take _) (RoW.ro _))))
    | quiet_step (first
      | (go_at_call 24; exact Calls.ro_same (has_c4 hn (RoW.ro _)))
      | (go_at_call 25; exact Calls.ro_of (all_target (hk.take _) (RoW.ro _))))))
  all_goals refine wpQuiet_nil ?_
  all_goals (intro w1 hr1; have hc1 := hr1.cell)
  all_goals go_wp2
  all_goals go_ret
  all_goals exact ⟨ret_bool E.out.symm, hr1⟩
set_option maxHeartbeats 40000000 in
set_option maxRecDepth 100000 in
theorem lets_no2 {w0 w : World} {B : Nat} {a : Addr} {n : Node} (hn : NodeAt w0 B a n) (hr : Ro w0 B w) (h67 : n.kind = 6 ∨ n.kind = 7) (hv : n.n = 1 ∨ n.n = 2) (hlen : ¬ (n.kids.length : Int) = n.n + 1) :
    Calls Tryz.prog 66 #[.pointer (some a)] w fun e w' => e = .returned (.bool (letsB n)) ∧ Ro w0 B w' := by
  obtain ⟨A, c, hb, c0, c1, c2, c3, c7, hk⟩ := hn.open_
  have hc := hr.cell
  haveI hne : Nonempty (RoW w0 B) := ⟨⟨w, hr⟩⟩
  have hcq : ∀ (p : RoW w0 B) (a : Addr), a.block < B → p.w.cell? a = w0.cell? a := fun p a h => p.cell a h
  have hl := hk.le
  have hl' := hk.le'
  have E : Hid (letsB n = false) := by
    show _ = _
    simp [letsB, hlen]
  have hq : (((n.kids.length : Int) != n.n + 1) = true) := by rw [bne_iff_ne]; exact hlen
  clear hlen
  rcases hv with hv | hv
  all_goals rw [hv] at hq
  all_goals simp only [Int.reduceAdd] at hq
  all_goals rcases h67 with hkd | hkd
  all_goals go_enter Tryz.func66, Tryz.ntmps66
  all_goals go_wp2_with fail
  all_goals refine wp_region_ro hr (by kernel_rfl) (by kernel_rfl) ?_
  all_goals repeat (any_goals (first
    | go_big_quiet_step (first
      | (go_at_call 24; exact Calls.ro_same (has_c4 hn (RoW.ro _)))
      | (go_at_call 25; exact Calls.ro_of (all_target (hk.take _) (RoW.ro _))))
    | quiet_step (first
      | (go_at_call 24; exact Calls.ro_same (has_c4 hn (RoW.ro _)))
      | (go_at_call 25; exact Calls.ro_of (all_target (hk.take _) (RoW.ro _))))))
  all_goals refine wpQuiet_nil ?_
  all_goals (intro w1 hr1; have hc1 := hr1.cell)
  all_goals go_wp2
  all_goals go_ret
  all_goals exact ⟨ret_bool E.out.symm, hr1⟩
set_option maxHeartbeats 40000000 in
set_option maxRecDepth 100000 in
theorem lets_no3 {w0 w : World} {B : Nat} {a : Addr} {n : Node} (hn : NodeAt w0 B a n) (hr : Ro w0 B w) (h67 : n.kind = 6 ∨ n.kind = 7) (hv : n.n = 1 ∨ n.n = 2) (hlen : (n.kids.length : Int) = n.n + 1)
    (hbad : bareB n false false true = false ∨ bareB n false false true = true ∧ (n.kids.take n.n.toNat).all targetB = false) :
    Calls Tryz.prog 66 #[.pointer (some a)] w fun e w' => e = .returned (.bool (letsB n)) ∧ Ro w0 B w' := by
  obtain ⟨A, c, hb, c0, c1, c2, c3, c7, hk⟩ := hn.open_
  have hc := hr.cell
  haveI hne : Nonempty (RoW w0 B) := ⟨⟨w, hr⟩⟩
  have hcq : ∀ (p : RoW w0 B) (a : Addr), a.block < B → p.w.cell? a = w0.cell? a := fun p a h => p.cell a h
  have hl := hk.le
  have hl' := hk.le'
  have E : Hid (letsB n = false) := by
    show _ = _
    rcases hbad with h | ⟨_, h⟩ <;> simp [letsB, h]
  have hq : (((n.kids.length : Int) != n.n + 1) = false) := by rw [bne_eq_false_iff_eq]; exact hlen
  obtain ⟨ad, rfl⟩ := hk.some_ (by omega)
  have htk : ∀ p : RoW w0 B, Calls Tryz.prog 25 #[.slice (some ad) (n.kids.take n.n.toNat).length c, .func (.func 111) #[] #[]] p.w fun e w' => e = .returned (.bool ((n.kids.take n.n.toNat).all targetB)) ∧ ∃ p : RoW w0 B, w' = p.w := fun p => Calls.ro_of (all_target (hk.take _) p.ro)
  rw [show (n.kids.take n.n.toNat).length = n.n.toNat from by rw [List.length_take]; omega] at htk
  rcases hv with hv | hv
  all_goals rw [hv] at hq htk hbad
  all_goals have hl3 : (n.n.toNat : Int) ≤ n.kids.length := by omega
  all_goals rw [hv] at hl3
  all_goals simp only [Int.reduceAdd, Int.reduceToNat] at hq htk hbad hl3
  all_goals have HT := Lib.hid htk
  all_goals clear htk hlen
  all_goals rcases hbad with hb1 | ⟨hb1, hb2⟩
  all_goals rcases h67 with hkd | hkd
  all_goals go_enter Tryz.func66, Tryz.ntmps66
  all_goals go_wp2_with fail
  all_goals refine wp_region_ro hr (by kernel_rfl) (by kernel_rfl) ?_
  all_goals repeat (any_goals (first
    | go_big_quiet_step (first
      | (go_at_call 24; exact Calls.ro_same (has_c4 hn (RoW.ro _)))
      | (go_at_call 25; exact HT.out _))
    | quiet_step (first
      | (go_at_call 24; exact Calls.ro_same (has_c4 hn (RoW.ro _)))
      | (go_at_call 25; exact HT.out _))))
  all_goals refine wpQuiet_nil ?_
  all_goals (intro w1 hr1; have hc1 := hr1.cell)
  all_goals go_wp2
  all_goals go_ret
  all_goals exact ⟨ret_bool E.out.symm, hr1⟩
set_option maxHeartbeats 40000000 in
set_option maxRecDepth 100000 in
theorem lets_yes {w0 w : World} {B : Nat} {a : Addr} {n : Node} (hn : NodeAt w0 B a n) (hr : Ro w0 B w) (h67 : n.kind = 6 ∨ n.kind = 7) (hv : n.n = 1 ∨ n.n = 2) (hlen : (n.kids.length : Int) = n.n + 1)
    (hb1 : bareB n false false true = true) (hb2 : (n.kids.take n.n.toNat).all targetB = true) :
    Calls Tryz.prog 66 #[.pointer (some a)] w fun e w' => e = .returned (.bool (letsB n)) ∧ Ro w0 B w' := by
  obtain ⟨A, c, hb, c0, c1, c2, c3, c7, hk⟩ := hn.open_
  have hc := hr.cell
  haveI hne : Nonempty (RoW w0 B) := ⟨⟨w, hr⟩⟩
  have hcq : ∀ (p : RoW w0 B) (a : Addr), a.block < B → p.w.cell? a = w0.cell? a := fun p a h => p.cell a h
  have hl := hk.le
  have hl' := hk.le'
  have hlt : n.n.toNat < n.kids.length := by omega
  have E : Hid (letsB n = (exprB n.kids[n.n.toNat] && (n.n == 1 || recvB n.kids[n.n.toNat]) && !((n.kids.take n.n.toNat).all (fun k => isT k.text [95]) && n.kind == 6))) := by
    show _ = _
    have h1 : (n.kids.take n.n.toNat).any (fun k => !isT k.text [95]) = !(n.kids.take n.n.toNat).all (fun k => isT k.text [95]) := by rw [List.not_all_eq_any_not]
    unfold letsB
    rw [hb1, hb2, kidB_at hlt, kidB_at hlt, h1]
    have h2 : ((n.kids.length : Int) == n.n + 1) = true := by rw [beq_iff_eq]; exact hlen
    rw [h2]
    rcases hv with h | h <;> rcases h67 with k | k <;> simp [h, k]
  have hq : (((n.kids.length : Int) != n.n + 1) = false) := by rw [bne_eq_false_iff_eq]; exact hlen
  obtain ⟨ad, rfl⟩ := hk.some_ (by omega)
  have hkid := kid_at hk hlt
  have htk : ∀ p : RoW w0 B, Calls Tryz.prog 25 #[.slice (some ad) (n.kids.take n.n.toNat).length c, .func (.func 111) #[] #[]] p.w fun e w' => e = .returned (.bool ((n.kids.take n.n.toNat).all targetB)) ∧ ∃ p : RoW w0 B, w' = p.w := fun p => Calls.ro_of (all_target (hk.take _) p.ro)
  have hbk : ∀ p : RoW w0 B, Calls Tryz.prog 25 #[.slice (some ad) (n.kids.take n.n.toNat).length c, .func (.func 112) #[] #[]] p.w fun e w' => e = .returned (.bool ((n.kids.take n.n.toNat).all (fun k => isT k.text [95]))) ∧ ∃ p : RoW w0 B, w' = p.w := fun p => Calls.ro_of (all_blank (hk.take _) p.ro)
  rw [show (n.kids.take n.n.toNat).length = n.n.toNat from by rw [List.length_take]; omega] at htk hbk
  generalize n.kids[n.n.toNat] = kl at hkid E
  generalize (n.kids.take n.n.toNat).all (fun k => isT k.text [95]) = bl at hbk E
  rcases hv with hv | hv
  all_goals rw [hv] at hq htk hbk hb2 hkid E
  all_goals have hl3 : (n.n.toNat : Int) ≤ n.kids.length := by omega
  all_goals have hl4 : (n.n.toNat : Int) < n.kids.length := by omega
  all_goals rw [hv] at hl3 hl4
  all_goals simp only [Int.reduceAdd, Int.reduceToNat, Int.reduceMul, Nat.reduceMul] at hq htk hbk hb2 hl3 hl4 hkid
  all_goals rw [hb2] at htk
  all_goals rw [add_fld ad (by decide)] at hkid
  all_goals have HT := Lib.hid htk
  all_goals have HB := Lib.hid hbk
  all_goals clear htk hbk hlen hlt hb2
  all_goals rcases h67 with hkd | hkd
  all_goals go_enter Tryz.func66, Tryz.ntmps66
  all_goals go_wp2_with fail
  all_goals refine wp_region_ro hr (by kernel_rfl) (by kernel_rfl) ?_
  all_goals repeat (any_goals (first
    | go_big_quiet_step (first
      | (go_at_call 24; exact Calls.ro_same (has_c4 hn (RoW.ro _)))
      | (go_at_call 25; exact HT.out _))
    | quiet_step (first
      | (go_at_call 24; exact Calls.ro_same (has_c4 hn (RoW.ro _)))
      | (go_at_call 25; exact HT.out _))))
  all_goals refine wpQuiet_nil ?_
  all_goals (intro w1 hr1; have hc1 := hr1.cell)
  all_goals go_wp2_with fail
  all_goals refine wp_region_ro hr1 (by kernel_rfl) (by kernel_rfl) ?_
  all_goals repeat (any_goals (first
    | go_big_quiet_step (first
      | (go_at_call 25; exact HB.out _))
    | quiet_step (first
      | (go_at_call 25; exact HB.out _))))
  all_goals refine wpQuiet_nil ?_
  all_goals (intro w2 hr2; have hc2 := hr2.cell)
  all_goals go_wp2_with fail
  all_goals refine wp_region_ro hr2 (by kernel_rfl) (by kernel_rfl) ?_
  all_goals repeat (any_goals (first
    | go_big_quiet_step (first
      | fail)
    | quiet_step (first
      | fail)))
  all_goals refine wpQuiet_nil ?_
  all_goals (intro w3 hr3; have hc3 := hr3.cell)
  all_goals go_wp2_with (first
    | (go_at_call 62; (with_reducible refine (expr_c hkid ?hr).mono ?_); (case hr => assumption); rintro e w4 ⟨rfl, hr4⟩; have hc4 := hr4.cell)
    | (go_at_call 110; (with_reducible refine (recv_c hkid ?hr).mono ?_); (case hr => assumption); rintro e w' ⟨rfl, rfl⟩))
  all_goals go_ret
  all_goals refine ⟨ret_bool ?_, by assumption⟩
  all_goals go_light
  all_goals rw [E.out]
  all_goals first | (simp [*]; done) | (simp_all; done) | grind
theorem lets_c {w0 w : World} {B : Nat} {a : Addr} {n : Node} (hn : NodeAt w0 B a n) (hr : Ro w0 B w) (h67 : n.kind = 6 ∨ n.kind = 7) :
    Calls Tryz.prog 66 #[.pointer (some a)] w fun e w' => e = .returned (.bool (letsB n)) ∧ Ro w0 B w' := by
  by_cases hv : n.n = 1 ∨ n.n = 2
  · by_cases hlen : (n.kids.length : Int) = n.n + 1
    · by_cases hb1 : bareB n false false true = true
      · by_cases hb2 : (n.kids.take n.n.toNat).all targetB = true
        · exact lets_yes hn hr h67 hv hlen hb1 hb2
        · exact lets_no3 hn hr h67 hv hlen (.inr ⟨hb1, by simpa using hb2⟩)
      · exact lets_no3 hn hr h67 hv hlen (.inl (by simpa using hb1))
    · exact lets_no2 hn hr h67 hv hlen
  · exact lets_no1 hn hr h67 (by rw [bne_iff_ne]; exact fun h => hv (.inl h)) (by rw [bne_iff_ne]; exact fun h => hv (.inr h))
end Go.Proofs.YtjdeomenioagdaaGreatDoor
