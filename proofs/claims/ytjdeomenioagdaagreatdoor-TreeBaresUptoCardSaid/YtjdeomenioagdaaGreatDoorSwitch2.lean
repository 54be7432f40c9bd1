/- Switches and selects, by the program. -/
import Derived.Test.YtjdeomenioagdaaGreatDoorSwitch
set_option linter.unusedVariables false
set_option linter.unusedSimpArgs false
namespace Go.Proofs.YtjdeomenioagdaaGreatDoor
open Go.RowKit
theorem simple_kids {s : Node} (h : simpleB s = true) (h8 : s.kind ≠ 8) (h9 : s.kind ≠ 9) : 0 < s.kids.length := by
  unfold simpleB at h
  by_cases h67 : s.kind = 6 ∨ s.kind = 7
  · rw [if_pos (by simpa using h67)] at h
    simp only [letsB, Bool.and_eq_true, Bool.or_eq_true, beq_iff_eq] at h
    obtain ⟨⟨⟨⟨⟨⟨h1, h2⟩, _⟩, _⟩, _⟩, _⟩, _⟩ := h
    omega
  · rw [if_neg (by simpa using h67), if_neg (by simpa using h8), if_neg (by simpa using h9)] at h
    by_cases h10 : s.kind = 10
    · rw [if_pos (by simpa using h10)] at h
      simp only [Bool.and_eq_true, beq_iff_eq] at h
      omega
    · rw [if_neg (by simpa using h10)] at h
      cases h
set_option maxHeartbeats 40000000 in
set_option maxRecDepth 100000 in
theorem armq_c {w0 w : World} {B : Nat} {a : Addr} {n : Node} (hn : NodeAt w0 B a n) (hr : Ro w0 B w) :
    Calls Tryz.prog 109 #[.pointer (some a)] w fun e w' => e = .returned (.bool (n.kids.length == 2 && kidB n 0 commB)) ∧ Ro w0 B w' := by
  obtain ⟨A, c, hb, c0, c1, c2, c3, c7, hk⟩ := hn.open_
  have hc := hr.cell
  have hl := hk.le
  have hl' := hk.le'
  have hz := hr.lt hb
  haveI hne : Nonempty (RoW w0 B) := ⟨⟨w, hr⟩⟩
  have hcq : ∀ (p : RoW w0 B) (a : Addr), a.block < B → p.w.cell? a = w0.cell? a := fun p a h => p.cell a h
  by_cases h2 : n.kids.length = 2
  · obtain ⟨ad, rfl⟩ := hk.some_ (by omega)
    have q0 := kid0_at hk (by omega)
    have h3 : ((n.kids.length : Int) != 2) = false := by rw [bne_eq_false_iff_eq]; omega
    have hl0 : 0 < n.kids.length := by omega
    have E0 : (n.kids.length == 2 && kidB n 0 commB) = commB n.kids[0] := by rw [kidB_at (by omega), h2]; rfl
    generalize n.kids[0] = s at q0 E0
    rw [E0]
    clear E0 h2
    obtain ⟨A', c', sb, s0, _, _, _, s7, hks⟩ := q0.open_
    have hsl := hks.le
    have hsl' := hks.le'
    have hs : simpleB s = true ∨ simpleB s = false := by cases simpleB s <;> simp
    rcases hs with hs | hs
    · by_cases k9 : s.kind = 9
      · have E : Hid (commB s = true) := by show _ = _; simp [commB, hs, k9]
        go_enter Tryz.func109, Tryz.ntmps109
        go_wp2_with (go_at_call 66; (with_reducible refine (simple_c q0 ?hr).mono ?_); (case hr => first | assumption | exact Ro.alloc (by assumption) _); rintro e w1 ⟨rfl, hr1⟩; have hc1 := hr1.cell)
        all_goals refine wp_region_ro hr1 (by kernel_rfl) (by kernel_rfl) ?_
        all_goals repeat (any_goals (first
          | go_big_quiet_step (first
              | fail)
          | quiet_step (first
              | fail)))
        all_goals refine wpQuiet_nil ?_
        all_goals (intro w2 hr2; have hc2 := hr2.cell)
        go_wp2
        go_ret
        exact ⟨ret_bool E.out.symm, hr2⟩
      · by_cases k8 : s.kind = 8
        · have E : Hid (commB s = false) := by show _ = _; simp [commB, hs, k8]
          go_enter Tryz.func109, Tryz.ntmps109
          go_wp2_with (go_at_call 66; (with_reducible refine (simple_c q0 ?hr).mono ?_); (case hr => first | assumption | exact Ro.alloc (by assumption) _); rintro e w1 ⟨rfl, hr1⟩; have hc1 := hr1.cell)
          all_goals refine wp_region_ro hr1 (by kernel_rfl) (by kernel_rfl) ?_
          all_goals repeat (any_goals (first
            | go_big_quiet_step (first
                | fail)
            | quiet_step (first
                | fail)))
          all_goals refine wpQuiet_nil ?_
          all_goals (intro w2 hr2; have hc2 := hr2.cell)
          go_wp2
          go_ret
          exact ⟨ret_bool E.out.symm, hr2⟩
        · have hp := simple_kids hs k8 k9
          obtain ⟨ad', rfl⟩ := hks.some_ hp
          have hlastk := kid_at hks (i := s.kids.length - 1) (by omega)
          have E : Hid (commB s = recvB (s.kids[s.kids.length - 1])) := by
            show _ = _
            simp [commB, hs, List.getLast?_eq_getElem?, List.getElem?_eq_getElem (by omega : s.kids.length - 1 < s.kids.length)]
            rw [beq_eq_false_iff_ne.2 k9, bne_iff_ne.2 k8]
            rfl
          generalize s.kids[s.kids.length - 1] = kl at hlastk E
          have k9' : (s.kind == 9) = false := by rw [beq_eq_false_iff_ne]; exact k9
          have k8' : (s.kind != 8) = true := by rw [bne_iff_ne]; exact k8
          have hp' : (0 : Int) < s.kids.length := by omega
          clear k8 k9
          go_enter Tryz.func109, Tryz.ntmps109
          go_wp2_with (go_at_call 66; (with_reducible refine (simple_c q0 ?hr).mono ?_); (case hr => first | assumption | exact Ro.alloc (by assumption) _); rintro e w1 ⟨rfl, hr1⟩; have hc1 := hr1.cell)
          all_goals refine wp_region_ro hr1 (by kernel_rfl) (by kernel_rfl) ?_
          all_goals repeat (any_goals (first
            | go_big_quiet_step (first
                | (go_at_call 110; exact Calls.ro_same (recv_c hlastk (RoW.ro _))))
            | quiet_step (first
                | (go_at_call 110; exact Calls.ro_same (recv_c hlastk (RoW.ro _))))))
          all_goals refine wpQuiet_nil ?_
          all_goals (intro w2 hr2; have hc2 := hr2.cell)
          go_wp2
          go_ret
          exact ⟨ret_bool E.out.symm, hr2⟩
    · have E : Hid (commB s = false) := by show _ = _; simp [commB, hs]
      go_enter Tryz.func109, Tryz.ntmps109
      go_wp2_with (go_at_call 66; (with_reducible refine (simple_c q0 ?hr).mono ?_); (case hr => first | assumption | exact Ro.alloc (by assumption) _); rintro e w1 ⟨rfl, hr1⟩; have hc1 := hr1.cell)
      go_ret
      exact ⟨ret_bool E.out.symm, hr1⟩
  · have h3 : ((n.kids.length : Int) != 2) = true := by rw [bne_iff_ne]; omega
    have E : Hid ((n.kids.length == 2 && kidB n 0 commB) = false) := by show _ = _; rw [beq_eq_false_iff_ne.2 h2]; rfl
    go_enter Tryz.func109, Tryz.ntmps109
    go_wp2_with fail
    go_ret
    exact ⟨ret_bool E.out.symm, hr⟩
theorem enters_caseq : ∀ args w, (callFunc 107 args).run Tryz.prog w = .ok (.enter 107 args) w := fun args w => by kernel_rfl
theorem enters_armq : ∀ args w, (callFunc 109 args).run Tryz.prog w = .ok (.enter 109 args) w := fun args w => by kernel_rfl
theorem cases_c {w0 w : World} {B : Nat} {A : Option Addr} {l : List Node} {c m : Nat} (ih : StmtIH m) (hk : KidsAt w0 B A l c) (hm : ∀ k ∈ l, k.size ≤ m + 1) (hr : Ro w0 B w) :
    Calls Tryz.prog 106 #[.slice A l.length c, .func (.func 107) #[] #[]] w fun e w' => e = .returned (.bool (l.all (clauseQ (fun k => decide (2 ≤ k.kids.length) && exprsB false k.kids.dropLast)) && decide (defaults l ≤ 1))) ∧ Ro w0 B w' :=
  clauses_c ih hk hm hr enters_caseq fun k _ a W hW => caseq_c hW (Ro.self W)
theorem arms_c {w0 w : World} {B : Nat} {A : Option Addr} {l : List Node} {c m : Nat} (ih : StmtIH m) (hk : KidsAt w0 B A l c) (hm : ∀ k ∈ l, k.size ≤ m + 1) (hr : Ro w0 B w) :
    Calls Tryz.prog 106 #[.slice A l.length c, .func (.func 109) #[] #[]] w fun e w' => e = .returned (.bool (l.all (clauseQ (fun k => k.kids.length == 2 && kidB k 0 commB)) && decide (defaults l ≤ 1))) ∧ Ro w0 B w' :=
  clauses_c ih hk hm hr enters_armq fun k _ a W hW => armq_c hW (Ro.self W)
def selectE (n : Node) : Bool := bareB n false false false && n.kids.all (clauseB 16) && decide (defaults n.kids ≤ 1) && lastsB n.kids
set_option maxHeartbeats 40000000 in
set_option maxRecDepth 100000 in
theorem selects_step {w0 w : World} {B : Nat} {a : Addr} {n : Node} {m : Nat} (ih : StmtIH m) (hn : NodeAt w0 B a n) (hm : n.size ≤ m + 1) (hr : Ro w0 B w) :
    Calls Tryz.prog 65 #[.pointer (some a)] w fun e w' => e = .returned (.bool (selectE n)) ∧ Ro w0 B w' := by
  obtain ⟨A, c, hb, c0, c1, c2, c3, c7, hk⟩ := hn.open_
  have hc := hr.cell
  have hl := hk.le
  have hl' := hk.le'
  have hz := hr.lt hb
  have hkm : ∀ k ∈ n.kids, k.size ≤ m + 1 := fun k hk => by have := n.size_kid hk; omega
  have E : Hid (selectE n = (bareB n false false false && (n.kids.all (fun k => k.kind == 16) && (n.kids.all (clauseQ (fun k => k.kids.length == 2 && kidB k 0 commB)) && decide (defaults n.kids ≤ 1))))) := by
    show _ = _
    rw [arms_eq]
    simp [selectE, Bool.and_assoc]
  go_enter Tryz.func65, Tryz.ntmps65
  go_wp2_with (first
    | (go_at_call 24; (with_reducible refine (has_c0 hn ?hr).mono ?_); (case hr => first | assumption | exact Ro.alloc (by assumption) _); rintro e w' ⟨rfl, rfl⟩)
    | (go_at_call 25; (with_reducible refine (all_arm16 hk ?hr).mono ?_); (case hr => first | assumption | exact Ro.alloc (by assumption) _); rintro e w1 ⟨rfl, hr1⟩; have hc1 := hr1.cell)
    | (go_at_call 106; (with_reducible refine (arms_c ih hk hkm ?hr).mono ?_); (case hr => first | assumption | exact Ro.alloc (by assumption) _); rintro e w1 ⟨rfl, hr1⟩; have hc1 := hr1.cell))
  all_goals go_ret
  all_goals refine ⟨ret_bool ?_, by first | assumption | exact Ro.alloc (by assumption) _⟩
  all_goals go_light
  all_goals rw [E.out]
  all_goals first | (simp [*]; done) | (simp_all; done) | grind
theorem KidsAt.drop1 {w : World} {B : Nat} {ad : Addr} {l : List Node} {c : Nat} (h : KidsAt w B (some ad) l c) (h1 : 1 < c) : KidsAt w B (some (fld ad 8)) (l.drop 1) (c - 1) := by
  refine ⟨by have := h.le; rw [List.length_drop]; omega, by have := h.le'; rw [List.length_drop]; omega, by have := h.cap; omega, fun _ => ⟨_, rfl⟩, fun ad' hA i hi => ?_⟩
  injection hA with hA
  subst hA
  rw [List.length_drop] at hi
  have h2 := h.at_ ad rfl (1 + i) (by omega)
  have e : ad.add ((1 + i) * 8) = (fld ad 8).add (i * 8) := by
    rw [add_fld ad (by omega)]
    by_cases h0 : i = 0
    · subst h0; rw [Nat.zero_mul, add_zero_]
    · rw [add_fld _ (by omega)]
      show (⟨_, _, _⟩ : Addr) = ⟨_, _, _⟩
      simp only [Addr.mk.injEq, and_true, true_and]
      omega
  rw [e] at h2
  rw [List.getElem_drop]
  exact h2
theorem KidsAt.nil_ {w : World} {B : Nat} (A : Option Addr) {c : Nat} (h : c ≤ 1048576) : KidsAt w B A [] c := ⟨Nat.zero_le _, by simp, by omega, fun h => absurd h (by simp), fun _ _ i hi => absurd hi (by simp)⟩
def switchE (n : Node) : Bool := (n.n == 0 || n.n == 1) && decide (n.n ≤ n.kids.length) && bareB n false false true && exprsB false (n.kids.take n.n.toNat) &&
      (n.kids.drop n.n.toNat).all (clauseB 14) && decide (defaults (n.kids.drop n.n.toNat) ≤ 1) && (if n.n == 0 then lastsB n.kids else match n.kids with | [] => true | _ :: r => lastsB r)
theorem switchE_eq {n : Node} (hv : n.n = 0 ∨ n.n = 1) : switchE n = (decide (n.n ≤ n.kids.length) && bareB n false false true && exprsB false (n.kids.take n.n.toNat) && ((n.kids.drop n.n.toNat).all (fun k => k.kind == 14) && ((n.kids.drop n.n.toNat).all (clauseQ (fun k => decide (2 ≤ k.kids.length) && exprsB false k.kids.dropLast)) && decide (defaults (n.kids.drop n.n.toNat) ≤ 1)))) := by
  rw [cases_eq]
  have h : (if n.n == 0 then lastsB n.kids else match n.kids with | [] => true | _ :: r => lastsB r) = lastsB (n.kids.drop n.n.toNat) := by
    rcases hv with h | h
    · rw [h]; rfl
    · rw [h]
      cases n.kids <;> rfl
  unfold switchE
  rw [h]
  rcases hv with h | h <;> simp only [h] <;> simp [Bool.and_assoc]
set_option maxHeartbeats 40000000 in
set_option maxRecDepth 100000 in
theorem switches_no {w0 w : World} {B : Nat} {a : Addr} {n : Node} (hn : NodeAt w0 B a n) (hr : Ro w0 B w) (h0 : (n.n != 0) = true) (h1 : (n.n != 1) = true) :
    Calls Tryz.prog 64 #[.pointer (some a)] w fun e w' => e = .returned (.bool (switchE n)) ∧ Ro w0 B w' := by
  obtain ⟨A, c, hb, c0, c1, c2, c3, c7, hk⟩ := hn.open_
  have hc := hr.cell
  have hl := hk.le
  have hl' := hk.le'
  have hz := hr.lt hb
  haveI hne : Nonempty (RoW w0 B) := ⟨⟨w, hr⟩⟩
  have hcq : ∀ (p : RoW w0 B) (a : Addr), a.block < B → p.w.cell? a = w0.cell? a := fun p a h => p.cell a h
  have E : Hid (switchE n = false) := by
    show _ = _
    rw [bne_iff_ne] at h0 h1
    simp [switchE, h0, h1]
  go_enter Tryz.func64, Tryz.ntmps64
  go_wp2_with fail
  all_goals refine wp_region_ro hr (by kernel_rfl) (by kernel_rfl) ?_
  all_goals repeat (any_goals (first
    | go_big_quiet_step (first
        | fail)
    | quiet_step (first
        | fail)))
  all_goals refine wpQuiet_nil ?_
  all_goals (intro w1 hr1; have hc1 := hr1.cell)
  go_wp2
  go_ret
  exact ⟨ret_bool E.out.symm, hr1⟩
set_option maxHeartbeats 40000000 in
set_option maxRecDepth 100000 in
theorem switches_bad0 {w0 w : World} {B : Nat} {a : Addr} {n : Node} {m : Nat} (hn : NodeAt w0 B a n) (hm : n.size ≤ m + 1) (hr : Ro w0 B w) (hv : n.n = 0) (hbad : ((n.kids.length : Int) < n.n ∨ n.n ≤ (n.kids.length : Int) ∧ (bareB n false false true = false ∨ bareB n false false true = true ∧ exprsB false (n.kids.take n.n.toNat) = false))) :
    Calls Tryz.prog 64 #[.pointer (some a)] w fun e w' => e = .returned (.bool (switchE n)) ∧ Ro w0 B w' := by
  obtain ⟨A, c, hb, c0, c1, c2, c3, c7, hk⟩ := hn.open_
  have hc := hr.cell
  have hl := hk.le
  have hl' := hk.le'
  have hz := hr.lt hb
  haveI hne : Nonempty (RoW w0 B) := ⟨⟨w, hr⟩⟩
  have hcq : ∀ (p : RoW w0 B) (a : Addr), a.block < B → p.w.cell? a = w0.cell? a := fun p a h => p.cell a h
  have E : Hid (switchE n = false) := by
    show _ = _
    rw [switchE_eq (by omega)]
    rcases hbad with h | ⟨_, h | ⟨_, h⟩⟩
    · rw [decide_eq_false (by omega)]; rfl
    · rw [h]; simp
    · rw [h]; simp
  have HT : n.n ≤ (n.kids.length : Int) → Hid (∀ p : RoW w0 B, Calls Tryz.prog 25 #[.slice A 0 c, .func (.func 62) #[] #[]] p.w fun e w' => e = .returned (.bool (exprsB false (n.kids.take n.n.toNat))) ∧ ∃ p : RoW w0 B, w' = p.w) := by
    intro h p
    have := exprs_c (hk.take n.n.toNat) p.ro
    rw [show (n.kids.take n.n.toNat).length = 0 from by rw [List.length_take]; omega] at this
    exact Calls.ro_of this
  rcases hbad with h | ⟨h, hb1 | ⟨hb1, hb2⟩⟩
  · have hq : decide ((n.kids.length : Int) < 0) = true := decide_eq_true (by omega)
    clear h HT hk
    go_enter Tryz.func64, Tryz.ntmps64
    go_wp2_with fail
    all_goals refine wp_region_ro hr (by kernel_rfl) (by kernel_rfl) ?_
    all_goals repeat (any_goals (first
      | go_big_quiet_step (first
          | fail)
      | quiet_step (first
          | fail)))
    all_goals refine wpQuiet_nil ?_
    all_goals (intro w1 hr1; have hc1 := hr1.cell)
    go_wp2
    go_ret
    exact ⟨ret_bool E.out.symm, hr1⟩
  · have hq : decide ((n.kids.length : Int) < 0) = false := decide_eq_false (by omega)
    clear h HT hk
    go_enter Tryz.func64, Tryz.ntmps64
    go_wp2_with fail
    all_goals refine wp_region_ro hr (by kernel_rfl) (by kernel_rfl) ?_
    all_goals repeat (any_goals (first
      | go_big_quiet_step (first
          | (go_at_call 24; exact Calls.ro_same (has_c4 hn (RoW.ro _))))
      | quiet_step (first
          | (go_at_call 24; exact Calls.ro_same (has_c4 hn (RoW.ro _))))))
    all_goals refine wpQuiet_nil ?_
    all_goals (intro w1 hr1; have hc1 := hr1.cell)
    go_wp2
    go_ret
    exact ⟨ret_bool E.out.symm, hr1⟩
  · have hq : decide ((n.kids.length : Int) < 0) = false := decide_eq_false (by omega)
    have HT := HT h
    rw [hb2] at HT
    have hq2 : (0 : Int) ≤ n.kids.length := by omega
    have hq3 : 0 ≤ n.kids.length := by omega
    clear h hb2 hk
    go_enter Tryz.func64, Tryz.ntmps64
    go_wp2_with fail
    all_goals refine wp_region_ro hr (by kernel_rfl) (by kernel_rfl) ?_
    all_goals repeat (any_goals (first
      | go_big_quiet_step (first
          | (go_at_call 24; exact Calls.ro_same (has_c4 hn (RoW.ro _)))
          | (go_at_call 25; exact HT.out _))
      | quiet_step (first
          | (go_at_call 24; exact Calls.ro_same (has_c4 hn (RoW.ro _)))
          | (go_at_call 25; exact HT.out _))))
    all_goals refine wpQuiet_nil ?_
    all_goals (intro w1 hr1; have hc1 := hr1.cell)
    go_wp2
    go_ret
    exact ⟨ret_bool E.out.symm, hr1⟩
set_option maxHeartbeats 40000000 in
set_option maxRecDepth 100000 in
theorem switches_bad1 {w0 w : World} {B : Nat} {a : Addr} {n : Node} {m : Nat} (hn : NodeAt w0 B a n) (hm : n.size ≤ m + 1) (hr : Ro w0 B w) (hv : n.n = 1) (hbad : ((n.kids.length : Int) < n.n ∨ n.n ≤ (n.kids.length : Int) ∧ (bareB n false false true = false ∨ bareB n false false true = true ∧ exprsB false (n.kids.take n.n.toNat) = false))) :
    Calls Tryz.prog 64 #[.pointer (some a)] w fun e w' => e = .returned (.bool (switchE n)) ∧ Ro w0 B w' := by
  obtain ⟨A, c, hb, c0, c1, c2, c3, c7, hk⟩ := hn.open_
  have hc := hr.cell
  have hl := hk.le
  have hl' := hk.le'
  have hz := hr.lt hb
  haveI hne : Nonempty (RoW w0 B) := ⟨⟨w, hr⟩⟩
  have hcq : ∀ (p : RoW w0 B) (a : Addr), a.block < B → p.w.cell? a = w0.cell? a := fun p a h => p.cell a h
  have E : Hid (switchE n = false) := by
    show _ = _
    rw [switchE_eq (by omega)]
    rcases hbad with h | ⟨_, h | ⟨_, h⟩⟩
    · rw [decide_eq_false (by omega)]; rfl
    · rw [h]; simp
    · rw [h]; simp
  have HT : n.n ≤ (n.kids.length : Int) → Hid (∀ p : RoW w0 B, Calls Tryz.prog 25 #[.slice A 1 c, .func (.func 62) #[] #[]] p.w fun e w' => e = .returned (.bool (exprsB false (n.kids.take n.n.toNat))) ∧ ∃ p : RoW w0 B, w' = p.w) := by
    intro h p
    have := exprs_c (hk.take n.n.toNat) p.ro
    rw [show (n.kids.take n.n.toNat).length = 1 from by rw [List.length_take]; omega] at this
    exact Calls.ro_of this
  rcases hbad with h | ⟨h, hb1 | ⟨hb1, hb2⟩⟩
  · have hq : decide ((n.kids.length : Int) < 1) = true := decide_eq_true (by omega)
    clear h HT hk
    go_enter Tryz.func64, Tryz.ntmps64
    go_wp2_with fail
    all_goals refine wp_region_ro hr (by kernel_rfl) (by kernel_rfl) ?_
    all_goals repeat (any_goals (first
      | go_big_quiet_step (first
          | fail)
      | quiet_step (first
          | fail)))
    all_goals refine wpQuiet_nil ?_
    all_goals (intro w1 hr1; have hc1 := hr1.cell)
    go_wp2
    go_ret
    exact ⟨ret_bool E.out.symm, hr1⟩
  · have hq : decide ((n.kids.length : Int) < 1) = false := decide_eq_false (by omega)
    clear h HT hk
    go_enter Tryz.func64, Tryz.ntmps64
    go_wp2_with fail
    all_goals refine wp_region_ro hr (by kernel_rfl) (by kernel_rfl) ?_
    all_goals repeat (any_goals (first
      | go_big_quiet_step (first
          | (go_at_call 24; exact Calls.ro_same (has_c4 hn (RoW.ro _))))
      | quiet_step (first
          | (go_at_call 24; exact Calls.ro_same (has_c4 hn (RoW.ro _))))))
    all_goals refine wpQuiet_nil ?_
    all_goals (intro w1 hr1; have hc1 := hr1.cell)
    go_wp2
    go_ret
    exact ⟨ret_bool E.out.symm, hr1⟩
  · have hq : decide ((n.kids.length : Int) < 1) = false := decide_eq_false (by omega)
    have HT := HT h
    rw [hb2] at HT
    have hq2 : (1 : Int) ≤ n.kids.length := by omega
    have hq3 : 1 ≤ n.kids.length := by omega
    clear h hb2 hk
    go_enter Tryz.func64, Tryz.ntmps64
    go_wp2_with fail
    all_goals refine wp_region_ro hr (by kernel_rfl) (by kernel_rfl) ?_
    all_goals repeat (any_goals (first
      | go_big_quiet_step (first
          | (go_at_call 24; exact Calls.ro_same (has_c4 hn (RoW.ro _)))
          | (go_at_call 25; exact HT.out _))
      | quiet_step (first
          | (go_at_call 24; exact Calls.ro_same (has_c4 hn (RoW.ro _)))
          | (go_at_call 25; exact HT.out _))))
    all_goals refine wpQuiet_nil ?_
    all_goals (intro w1 hr1; have hc1 := hr1.cell)
    go_wp2
    go_ret
    exact ⟨ret_bool E.out.symm, hr1⟩
end Go.Proofs.YtjdeomenioagdaaGreatDoor
