/- Switches, by the program: the way to the clauses. -/
import Derived.Test.YtjdeomenioagdaaGreatDoorSwitch2
set_option linter.unusedVariables false
set_option linter.unusedSimpArgs false
namespace Go.Proofs.YtjdeomenioagdaaGreatDoor
open Go.RowKit
def kindsB (k : Int) (l : List Node) : Bool := l.all fun x => x.kind == k
def casesB (l : List Node) : Bool := l.all (clauseQ (fun k => decide (2 ≤ k.kids.length) && exprsB false k.kids.dropLast)) && decide (defaults l ≤ 1)
theorem kinds_c {w0 w : World} {B : Nat} {A : Option Addr} {l : List Node} {c : Nat} (hk : KidsAt w0 B A l c) (hr : Ro w0 B w) :
    Calls Tryz.prog 25 #[.slice A l.length c, .func (.func 105) #[] #[]] w fun e w' => e = .returned (.bool (kindsB 14 l)) ∧ Ro w0 B w' := all_case14 hk hr
theorem casesB_c {w0 w : World} {B : Nat} {A : Option Addr} {l : List Node} {c m : Nat} (ih : StmtIH m) (hk : KidsAt w0 B A l c) (hm : ∀ k ∈ l, k.size ≤ m + 1) (hr : Ro w0 B w) :
    Calls Tryz.prog 106 #[.slice A l.length c, .func (.func 107) #[] #[]] w fun e w' => e = .returned (.bool (casesB l)) ∧ Ro w0 B w' := cases_c ih hk hm hr
set_option maxHeartbeats 40000000 in
set_option maxRecDepth 100000 in
theorem switches_yes0 {w0 w : World} {B : Nat} {a : Addr} {n : Node} {m : Nat} (ih : StmtIH m) (hn : NodeAt w0 B a n) (hm : n.size ≤ m + 1) (hr : Ro w0 B w) (hv : n.n = 0) (hle : 0 ≤ n.kids.length) (hb1 : bareB n false false true = true) (hb2 : exprsB false (n.kids.take n.n.toNat) = true) :
    Calls Tryz.prog 64 #[.pointer (some a)] w fun e w' => e = .returned (.bool (switchE n)) ∧ Ro w0 B w' := by
  obtain ⟨A, c, hb, c0, c1, c2, c3, c7, hk⟩ := hn.open_
  have hc := hr.cell
  have hl := hk.le
  have hl' := hk.le'
  have hz := hr.lt hb
  haveI hne : Nonempty (RoW w0 B) := ⟨⟨w, hr⟩⟩
  have hcq : ∀ (p : RoW w0 B) (a : Addr), a.block < B → p.w.cell? a = w0.cell? a := fun p a h => p.cell a h
  have E : Hid (switchE n = (kindsB 14 (n.kids) && casesB (n.kids))) := by
    show _ = _
    rw [switchE_eq (by omega), hb1, hb2, hv, decide_eq_true (by omega)]
    rfl
  have HT : Hid (∀ p : RoW w0 B, Calls Tryz.prog 25 #[.slice A 0 c, .func (.func 62) #[] #[]] p.w fun e w' => e = .returned (.bool true) ∧ ∃ p : RoW w0 B, w' = p.w) := by
    intro p
    have := exprs_c (hk.take n.n.toNat) p.ro
    rw [hb2, show (n.kids.take n.n.toNat).length = 0 from by rw [List.length_take]; omega] at this
    exact Calls.ro_of this
  have hkm : ∀ k ∈ (n.kids), k.size ≤ m + 1 := fun k hk => by have := n.size_kid (by first | exact hk | exact List.mem_of_mem_drop hk); omega
  have hq : decide ((n.kids.length : Int) < 0) = false := decide_eq_false (by omega)
  have hq2 : (0 : Int) ≤ n.kids.length := by omega
  clear hb2
  have hkd := hk
  go_enter Tryz.func64, Tryz.ntmps64
  go_wp2_with fail
  all_goals refine wp_region_ro hr (by kernel_rfl) (by kernel_rfl) ?_
  all_goals repeat (any_goals (first
    | go_big_quiet_step (first
        | (go_at_call 24; exact Calls.ro_same (has_c4 hn (RoW.ro _)))
        | (go_at_call 25; exact HT.out _))
    | quiet_step (first
        | (go_at_call 24; exact Calls.ro_same (has_c4 hn (RoW.ro _)))
        | (go_at_call 25; exact HT.out _))))
  all_goals refine wpQuiet_nil ?_
  all_goals (intro w1 hr1; have hc1 := hr1.cell)
  all_goals go_wp2_with fail
  all_goals refine wp_region_ro hr1 (by kernel_rfl) (by kernel_rfl) ?_
  all_goals repeat (any_goals (first
    | go_big_quiet_step (first
        | fail)
    | quiet_step (first
        | fail)))
  all_goals refine wpQuiet_nil ?_
  all_goals (intro w2 hr2; have hc2 := hr2.cell)
  go_wp2_with (first
      | (go_at_call 25; (with_reducible refine (kinds_c hkd ?hr).mono ?_); (case hr => first | assumption | exact Ro.alloc (by assumption) _); rintro e w1 ⟨rfl, hr1⟩; have hc1 := hr1.cell)
      | (go_at_call 106; (with_reducible refine (casesB_c ih hkd hkm ?hr).mono ?_); (case hr => first | assumption | exact Ro.alloc (by assumption) _); rintro e w1 ⟨rfl, hr1⟩; have hc1 := hr1.cell))
  all_goals go_ret
  all_goals refine ⟨ret_bool ?_, by first | assumption | exact Ro.alloc (by assumption) _⟩
  all_goals go_light
  all_goals rw [E.out]
  all_goals first | (simp [*]; done) | (simp_all; done) | grind
set_option maxHeartbeats 40000000 in
set_option maxRecDepth 100000 in
theorem switches_yes1 {w0 w : World} {B : Nat} {a : Addr} {n : Node} {m : Nat} (ih : StmtIH m) (hn : NodeAt w0 B a n) (hm : n.size ≤ m + 1) (hr : Ro w0 B w) (hv : n.n = 1) (hle : 1 ≤ n.kids.length) (hb1 : bareB n false false true = true) (hb2 : exprsB false (n.kids.take n.n.toNat) = true) :
    Calls Tryz.prog 64 #[.pointer (some a)] w fun e w' => e = .returned (.bool (switchE n)) ∧ Ro w0 B w' := by
  obtain ⟨A, c, hb, c0, c1, c2, c3, c7, hk⟩ := hn.open_
  have hc := hr.cell
  have hl := hk.le
  have hl' := hk.le'
  have hz := hr.lt hb
  haveI hne : Nonempty (RoW w0 B) := ⟨⟨w, hr⟩⟩
  have hcq : ∀ (p : RoW w0 B) (a : Addr), a.block < B → p.w.cell? a = w0.cell? a := fun p a h => p.cell a h
  have E : Hid (switchE n = (kindsB 14 (n.kids.drop 1) && casesB (n.kids.drop 1))) := by
    show _ = _
    rw [switchE_eq (by omega), hb1, hb2, hv, decide_eq_true (by omega)]
    rfl
  have HT : Hid (∀ p : RoW w0 B, Calls Tryz.prog 25 #[.slice A 1 c, .func (.func 62) #[] #[]] p.w fun e w' => e = .returned (.bool true) ∧ ∃ p : RoW w0 B, w' = p.w) := by
    intro p
    have := exprs_c (hk.take n.n.toNat) p.ro
    rw [hb2, show (n.kids.take n.n.toNat).length = 1 from by rw [List.length_take]; omega] at this
    exact Calls.ro_of this
  have hkm : ∀ k ∈ (n.kids.drop 1), k.size ≤ m + 1 := fun k hk => by have := n.size_kid (by first | exact hk | exact List.mem_of_mem_drop hk); omega
  have hq : decide ((n.kids.length : Int) < 1) = false := decide_eq_false (by omega)
  have hq2 : (1 : Int) ≤ n.kids.length := by omega
  clear hb2
  obtain ⟨ad, rfl⟩ := hk.some_ (by omega)
  have hlenD : (n.kids.drop 1).length = n.kids.length - 1 := by simp
  by_cases hcap : c = 1
  · have hkd : KidsAt w0 B (some ad) (n.kids.drop 1) 0 := by
      have h : n.kids.drop 1 = [] := List.eq_nil_of_length_eq_zero (by omega)
      rw [h]
      exact KidsAt.nil_ _ (by omega)
    have hlen1 : n.kids.length = 1 := by omega
    have HK1 := fun (w : World) (hr : Ro w0 B w) => kinds_c hkd hr
    have HK2 := fun (w : World) (hr : Ro w0 B w) => casesB_c ih hkd hkm hr
    rw [show (n.kids.drop 1).length = 0 from by omega] at HK1 HK2
    have HK1 := Lib.hid HK1
    have HK2 := Lib.hid HK2
    subst hcap
    clear hlenD hkd hk
    go_enter Tryz.func64, Tryz.ntmps64
    go_wp2_with fail
    all_goals refine wp_region_ro hr (by kernel_rfl) (by kernel_rfl) ?_
    all_goals repeat (any_goals (first
      | go_big_quiet_step (first
          | (go_at_call 24; exact Calls.ro_same (has_c4 hn (RoW.ro _)))
          | (go_at_call 25; exact HT.out _))
      | quiet_step (first
          | (go_at_call 24; exact Calls.ro_same (has_c4 hn (RoW.ro _)))
          | (go_at_call 25; exact HT.out _))))
    all_goals refine wpQuiet_nil ?_
    all_goals (intro w1 hr1; have hc1 := hr1.cell)
    all_goals go_wp2_with fail
    all_goals refine wp_region_ro hr1 (by kernel_rfl) (by kernel_rfl) ?_
    all_goals repeat (any_goals (first
      | go_big_quiet_step (first
          | fail)
      | quiet_step (first
          | fail)))
    all_goals refine wpQuiet_nil ?_
    all_goals (intro w2 hr2; have hc2 := hr2.cell)
    go_wp2_with (first
        | (go_at_call 25; (with_reducible refine (HK1.out _ ?hr).mono ?_); (case hr => first | assumption | exact Ro.alloc (by assumption) _); rintro e w1 ⟨rfl, hr1⟩; have hc1 := hr1.cell)
        | (go_at_call 106; (with_reducible refine (HK2.out _ ?hr).mono ?_); (case hr => first | assumption | exact Ro.alloc (by assumption) _); rintro e w1 ⟨rfl, hr1⟩; have hc1 := hr1.cell))
    all_goals go_ret
    all_goals refine ⟨ret_bool ?_, by first | assumption | exact Ro.alloc (by assumption) _⟩
    all_goals go_light
    all_goals rw [E.out]
    all_goals first | (simp [*]; done) | (simp_all; done) | grind
  · have hkd := hk.drop1 (by have := hk.le; omega)
    have HK1 := fun (w : World) (hr : Ro w0 B w) => kinds_c hkd hr
    have HK2 := fun (w : World) (hr : Ro w0 B w) => casesB_c ih hkd hkm hr
    rw [hlenD] at HK1 HK2
    have HK1 := Lib.hid HK1
    have HK2 := Lib.hid HK2
    clear hlenD hkd hk
    go_enter Tryz.func64, Tryz.ntmps64
    go_wp2_with fail
    all_goals refine wp_region_ro hr (by kernel_rfl) (by kernel_rfl) ?_
    all_goals repeat (any_goals (first
      | go_big_quiet_step (first
          | (go_at_call 24; exact Calls.ro_same (has_c4 hn (RoW.ro _)))
          | (go_at_call 25; exact HT.out _))
      | quiet_step (first
          | (go_at_call 24; exact Calls.ro_same (has_c4 hn (RoW.ro _)))
          | (go_at_call 25; exact HT.out _))))
    all_goals refine wpQuiet_nil ?_
    all_goals (intro w1 hr1; have hc1 := hr1.cell)
    all_goals go_wp2_with fail
    all_goals refine wp_region_ro hr1 (by kernel_rfl) (by kernel_rfl) ?_
    all_goals repeat (any_goals (first
      | go_big_quiet_step (first
          | fail)
      | quiet_step (first
          | fail)))
    all_goals refine wpQuiet_nil ?_
    all_goals (intro w2 hr2; have hc2 := hr2.cell)
    go_wp2_with (first
        | (go_at_call 25; (with_reducible refine (HK1.out _ ?hr).mono ?_); (case hr => first | assumption | exact Ro.alloc (by assumption) _); rintro e w1 ⟨rfl, hr1⟩; have hc1 := hr1.cell)
        | (go_at_call 106; (with_reducible refine (HK2.out _ ?hr).mono ?_); (case hr => first | assumption | exact Ro.alloc (by assumption) _); rintro e w1 ⟨rfl, hr1⟩; have hc1 := hr1.cell))
    all_goals go_ret
    all_goals refine ⟨ret_bool ?_, by first | assumption | exact Ro.alloc (by assumption) _⟩
    all_goals go_light
    all_goals rw [E.out]
    all_goals first | (simp [*]; done) | (simp_all; done) | grind
theorem switches_step {w0 w : World} {B : Nat} {a : Addr} {n : Node} {m : Nat} (ih : StmtIH m) (hn : NodeAt w0 B a n) (hm : n.size ≤ m + 1) (hr : Ro w0 B w) :
    Calls Tryz.prog 64 #[.pointer (some a)] w fun e w' => e = .returned (.bool (switchE n)) ∧ Ro w0 B w' := by
  by_cases h0 : n.n = 0
  · by_cases hlen : (n.kids.length : Int) < n.n
    · exact switches_bad0 hn hm hr h0 (.inl hlen)
    · by_cases hb1 : bareB n false false true = true
      · by_cases hb2 : exprsB false (n.kids.take n.n.toNat) = true
        · exact switches_yes0 ih hn hm hr h0 (by omega) hb1 hb2
        · exact switches_bad0 hn hm hr h0 (.inr ⟨by omega, .inr ⟨hb1, by simpa using hb2⟩⟩)
      · exact switches_bad0 hn hm hr h0 (.inr ⟨by omega, .inl (by simpa using hb1)⟩)
  · by_cases h1 : n.n = 1
    · by_cases hlen : (n.kids.length : Int) < n.n
      · exact switches_bad1 hn hm hr h1 (.inl hlen)
      · by_cases hb1 : bareB n false false true = true
        · by_cases hb2 : exprsB false (n.kids.take n.n.toNat) = true
          · exact switches_yes1 ih hn hm hr h1 (by omega) hb1 hb2
          · exact switches_bad1 hn hm hr h1 (.inr ⟨by omega, .inr ⟨hb1, by simpa using hb2⟩⟩)
        · exact switches_bad1 hn hm hr h1 (.inr ⟨by omega, .inl (by simpa using hb1)⟩)
    · exact switches_no hn hr (by rw [bne_iff_ne]; exact h0) (by rw [bne_iff_ne]; exact h1)
end Go.Proofs.YtjdeomenioagdaaGreatDoor
