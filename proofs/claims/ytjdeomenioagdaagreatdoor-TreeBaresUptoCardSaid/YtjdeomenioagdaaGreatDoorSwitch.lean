/- Lists of cases and arms; switches, selects, by the program. -/
import Derived.Test.YtjdeomenioagdaaGreatDoorClauses
set_option linter.unusedVariables false
set_option linter.unusedSimpArgs false
namespace Go.Proofs.YtjdeomenioagdaaGreatDoor
open Go.RowKit
theorem defaults_cons (k : Node) (r : List Node) : defaults (k :: r) = k.n + defaults r := by simp [defaults]
theorem defaults_snoc (l : List Node) (k : Node) : defaults (l ++ [k]) = defaults l + k.n := by simp [defaults]
def allC (q : Node → Bool) : Int → List Node → Bool
  | _, [] => true
  | D, k :: r => pC q D k && allC q (D + k.n) r
def clauseQ (q : Node → Bool) (k : Node) : Bool := okC k && (if k.n == 1 then k.kids.length == 1 else q k)
theorem okC_n {k : Node} (h : okC k = true) : k.n = 0 ∨ k.n = 1 := by
  simp only [okC, Bool.and_eq_true, Bool.or_eq_true, beq_iff_eq] at h
  exact h.1.1.1
theorem defaults_nonneg (q : Node → Bool) (l : List Node) (h : l.all (clauseQ q) = true) : 0 ≤ defaults l := by
  induction l with
  | nil => simp [defaults]
  | cons k r ih =>
    simp only [List.all_cons, Bool.and_eq_true, clauseQ] at h
    rw [defaults_cons]
    have h1 := okC_n h.1.1
    have h2 := ih (by simpa [clauseQ] using h.2)
    omega
theorem allC_eq (q : Node → Bool) (l : List Node) : ∀ D : Int, D = 0 ∨ D = 1 → allC q D l = (l.all (clauseQ q) && decide (D + defaults l ≤ 1)) := by
  induction l with
  | nil => intro D hD; simp [allC, defaults]; omega
  | cons k r ih =>
    intro D hD
    rw [allC, List.all_cons, defaults_cons]
    by_cases hk : okC k = true
    · rcases okC_n hk with h0 | h1
      · have e : D + k.n = D := by omega
        rw [e, ih D hD]
        have e2 : D + (k.n + defaults r) = D + defaults r := by omega
        rw [e2]
        simp [pC, clauseQ, hk, h0, Bool.and_assoc]
      · by_cases hr : r.all (clauseQ q) = true
        · have hn := defaults_nonneg q r hr
          rcases hD with rfl | rfl
          · rw [h1, show (0 : Int) + 1 = 1 from rfl, ih 1 (.inr rfl), hr]
            have e2 : (0 : Int) + (1 + defaults r) = 1 + defaults r := by omega
            rw [e2]
            simp [pC, clauseQ, hk, h1]
          · have e2 : decide ((1 : Int) + (k.n + defaults r) ≤ 1) = false := decide_eq_false (by omega)
            rw [e2]
            simp [pC, h1]
        · have hr' : r.all (clauseQ q) = false := by simpa using hr
          rw [hr']
          rcases hD with rfl | rfl
          · rw [h1, show (0 : Int) + 1 = 1 from rfl, ih 1 (.inr rfl), hr']
            simp
          · simp [pC, h1]
    · have hk' : okC k = false := by simpa using hk
      simp [pC, clauseQ, hk']
def pAt (q : Node → Bool) (l : List Node) (k : Nat) : Bool := (l[k]?).any (pC q (defaults (l.take k)))
theorem range_allC (q : Node → Bool) (l : List Node) : ∀ m, m ≤ l.length → ((List.range m).all (pAt q l) = allC q 0 (l.take m)) ∧ ∀ k r, allC q 0 (l.take m ++ k :: r) = (allC q 0 (l.take m) && allC q (defaults (l.take m)) (k :: r)) := by
  have happ : ∀ (a b : List Node) (D : Int), allC q D (a ++ b) = (allC q D a && allC q (D + defaults a) b) := by
    intro a
    induction a with
    | nil => intro b D; simp [allC, defaults]
    | cons x a ih => intro b D; simp only [List.cons_append, allC, ih, defaults_cons, Bool.and_assoc]; rw [show D + x.n + defaults a = D + (x.n + defaults a) from by omega]
  intro m
  induction m with
  | zero => intro _; exact ⟨by simp [allC], fun k r => by simp [allC, defaults]⟩
  | succ m ih =>
    intro hm
    have h1 := (ih (by omega)).1
    refine ⟨?_, fun k r => by rw [happ]; simp⟩
    rw [List.range_succ, List.all_append, h1, List.take_succ_eq_append_getElem (by omega), happ]
    simp [pAt, allC, List.getElem?_eq_getElem (by omega : m < l.length)]
theorem range_pAt (q : Node → Bool) (l : List Node) : (List.range l.length).all (pAt q l) = (l.all (clauseQ q) && decide (defaults l ≤ 1)) := by
  have h := (range_allC q l l.length (Nat.le_refl _)).1
  rw [h, List.take_length, allC_eq q l 0 (.inl rfl)]
  simp
theorem enters_clause : ∀ args w, (callFunc 144 args).run Tryz.prog w = .ok (.enter 144 args) w := fun args w => by kernel_rfl
structure InvC (w0 : World) (B gd gi : Nat) (fi : FuncId) (l : List Node) (k : Nat) (w : World) : Prop where
  ro : Ro w0 B w
  c : CellsC gd gi fi (defaults (l.take k)) w
  lo : 0 ≤ defaults (l.take k)
  hi : defaults (l.take k) ≤ k
theorem all_clause {w0 w : World} {B gd gi : Nat} {fi : FuncId} {q : Node → Bool} {A : Option Addr} {l : List Node} {c m : Nat} (ih : StmtIH m) (hk : KidsAt w0 B A l c) (hm : ∀ k ∈ l, k.size ≤ m + 1) (hr : Ro w0 B w)
    (hgd : B ≤ gd) (hgi : B ≤ gi) (hne' : gd ≠ gi) (hc' : CellsC gd gi fi 0 w) (hfi : ∀ args w, (callFunc fi args).run Tryz.prog w = .ok (.enter fi args) w)
    (hq : ∀ k ∈ l, ∀ a W, NodeAt W W.heap.size a k → Calls Tryz.prog fi #[.pointer (some a)] W fun e w' => e = .returned (.bool (q k)) ∧ Ro W W.heap.size w') :
    Calls Tryz.prog 25 #[.slice A l.length c, .func (.func 144) #[] #[.pointer (some ⟨gd, 0, none⟩), .pointer (some ⟨gi, 0, none⟩)]] w fun e w' => e = .returned (.bool (l.all (clauseQ q) && decide (defaults l ≤ 1))) ∧ Ro w0 B w' := by
  rw [← range_pAt]
  refine all_inv _ _ (pAt q l) (InvC w0 B gd gi fi l) (Ro w0 B) enters_clause hk.le hk.le' hk.some_ ?_ (fun w h => h.ro) ⟨hr, by simpa [defaults] using hc', by simp [defaults], by simp [defaults]⟩
  intro ad hA k hkl w hI
  have hk' : l[k]? = some l[k] := List.getElem?_eq_getElem hkl
  have hp : pAt q l k = pC q (defaults (l.take k)) l[k] := by simp [pAt, hk']
  rw [hp]
  have hle := hk.le
  have hle' := hk.le'
  have h2 := hI.hi
  refine (clause_c ih (hk.at_ ad hA k hkl) (hm _ (List.getElem_mem hkl)) hI.ro hgd hgi hne' hI.lo (by omega) hI.c hfi (fun W hW => hq _ (List.getElem_mem hkl) _ W hW)).mono ?_
  rintro e w' ⟨he, hro, hcc⟩
  refine ⟨he, fun hp => ?_, fun _ => hro⟩
  have hok : okC l[k] = true := by
    simp only [pC, Bool.and_eq_true] at hp
    exact hp.1
  have hd : defaults (l.take (k + 1)) = defaults (l.take k) + l[k].n := by rw [List.take_succ_eq_append_getElem hkl, defaults_snoc]
  rw [hok, if_pos rfl] at hcc
  have h1 := hI.lo
  rcases okC_n hok with h0 | h1'
  · exact ⟨hro, by rw [hd]; exact hcc, by omega, by omega⟩
  · exact ⟨hro, by rw [hd]; exact hcc, by omega, by omega⟩
theorem cells_start (w : World) (fi : FuncId) : CellsC (w.heap.size + 1) w.heap.size fi 0 ((w.alloc (.cells #[.func (.func fi) #[] #[]] 43)).alloc (.cells #[.int .i64 0] 3)) := by
  refine ⟨?_, ?_⟩
  · have := heap_alloc_new (w.alloc (.cells #[.func (.func fi) #[] #[]] 43)) (.cells #[.int .i64 0] 3)
    simpa using this
  · rw [World.cell?_alloc_lt _ _ _ (by simp)]
    exact cell_new _ _ _ _
set_option maxHeartbeats 40000000 in
set_option maxRecDepth 100000 in
theorem clauses_c {w0 w : World} {B : Nat} {fi : FuncId} {q : Node → Bool} {A : Option Addr} {l : List Node} {c m : Nat} (ih : StmtIH m) (hk : KidsAt w0 B A l c) (hm : ∀ k ∈ l, k.size ≤ m + 1) (hr : Ro w0 B w)
    (hfi : ∀ args w, (callFunc fi args).run Tryz.prog w = .ok (.enter fi args) w)
    (hq : ∀ k ∈ l, ∀ a W, NodeAt W W.heap.size a k → Calls Tryz.prog fi #[.pointer (some a)] W fun e w' => e = .returned (.bool (q k)) ∧ Ro W W.heap.size w') :
    Calls Tryz.prog 106 #[.slice A l.length c, .func (.func fi) #[] #[]] w fun e w' => e = .returned (.bool (l.all (clauseQ q) && decide (defaults l ≤ 1))) ∧ Ro w0 B w' := by
  have HA := Lib.hid (fun (w : World) (gd gi : Nat) (hr : Ro w0 B w) (hgd : B ≤ gd) (hgi : B ≤ gi) (hne' : gd ≠ gi) (hc' : CellsC gd gi fi 0 w) => all_clause ih hk hm hr hgd hgi hne' hc' hfi hq)
  have hB := hr.size
  clear hq hm ih
  go_enter Tryz.func106, Tryz.ntmps106
  go_wp2_with (go_at_call 25; (with_reducible refine (HA.out _ (w.heap.size + 1) w.heap.size ?h1 ?h2 hB ?h3 ?h4).mono ?_); (case h1 => exact (hr.alloc _).alloc _); (case h2 => omega); (case h3 => omega); (case h4 => exact cells_start w fi); rintro e w1 ⟨rfl, hr1⟩)
  go_ret
  exact ⟨rfl, hr1⟩
theorem clauseQ_14 (k : Node) : clauseQ (fun k => decide (2 ≤ k.kids.length) && exprsB false k.kids.dropLast) k = true ∧ k.kind = 14 ↔ clauseB 14 k = true ∧ lastB k.kids = true := by
  unfold clauseQ okC clauseB
  by_cases h : k.n = 1 <;> simp [h] <;> grind
theorem clauseQ_16 (k : Node) : clauseQ (fun k => k.kids.length == 2 && kidB k 0 commB) k = true ∧ k.kind = 16 ↔ clauseB 16 k = true ∧ lastB k.kids = true := by
  unfold clauseQ okC clauseB
  by_cases h : k.n = 1 <;> simp [h] <;> grind
theorem cases_eq (l : List Node) : (l.all (fun k => k.kind == 14) && (l.all (clauseQ (fun k => decide (2 ≤ k.kids.length) && exprsB false k.kids.dropLast)) && decide (defaults l ≤ 1))) = (l.all (clauseB 14) && decide (defaults l ≤ 1) && lastsB l) := by
  have h : (l.all (fun k => k.kind == 14) && l.all (clauseQ (fun k => decide (2 ≤ k.kids.length) && exprsB false k.kids.dropLast))) = (l.all (clauseB 14) && lastsB l) := by
    rw [lastsB_all, Bool.eq_iff_iff]
    simp only [Bool.and_eq_true, List.all_eq_true, beq_iff_eq]
    constructor
    · intro ⟨h1, h2⟩
      exact ⟨fun k hk => ((clauseQ_14 k).1 ⟨h2 k hk, h1 k hk⟩).1, fun k hk => ((clauseQ_14 k).1 ⟨h2 k hk, h1 k hk⟩).2⟩
    · intro ⟨h1, h2⟩
      exact ⟨fun k hk => ((clauseQ_14 k).2 ⟨h1 k hk, h2 k hk⟩).2, fun k hk => ((clauseQ_14 k).2 ⟨h1 k hk, h2 k hk⟩).1⟩
  rw [← Bool.and_assoc, h]
  grind
theorem arms_eq (l : List Node) : (l.all (fun k => k.kind == 16) && (l.all (clauseQ (fun k => k.kids.length == 2 && kidB k 0 commB)) && decide (defaults l ≤ 1))) = (l.all (clauseB 16) && decide (defaults l ≤ 1) && lastsB l) := by
  have h : (l.all (fun k => k.kind == 16) && l.all (clauseQ (fun k => k.kids.length == 2 && kidB k 0 commB))) = (l.all (clauseB 16) && lastsB l) := by
    rw [lastsB_all, Bool.eq_iff_iff]
    simp only [Bool.and_eq_true, List.all_eq_true, beq_iff_eq]
    constructor
    · intro ⟨h1, h2⟩
      exact ⟨fun k hk => ((clauseQ_16 k).1 ⟨h2 k hk, h1 k hk⟩).1, fun k hk => ((clauseQ_16 k).1 ⟨h2 k hk, h1 k hk⟩).2⟩
    · intro ⟨h1, h2⟩
      exact ⟨fun k hk => ((clauseQ_16 k).2 ⟨h1 k hk, h2 k hk⟩).2, fun k hk => ((clauseQ_16 k).2 ⟨h1 k hk, h2 k hk⟩).1⟩
  rw [← Bool.and_assoc, h]
  grind
set_option maxHeartbeats 40000000 in
set_option maxRecDepth 100000 in
theorem case14_c {w0 w : World} {B : Nat} {a : Addr} {n : Node} (hn : NodeAt w0 B a n) (hr : Ro w0 B w) :
    Calls Tryz.prog 105 #[.pointer (some a)] w fun e w' => e = .returned (.bool (n.kind == 14)) ∧ Ro w0 B w' := by
  obtain ⟨A, c, hb, c0, c1, c2, c3, c7, hk⟩ := hn.open_
  have hc := hr.cell
  have hl := hk.le
  have hl' := hk.le'
  have hz := hr.lt hb
  go_enter Tryz.func105, Tryz.ntmps105
  go_wp2_with fail
  go_ret
  exact ⟨rfl, hr⟩
theorem enters_case14 : ∀ args w, (callFunc 105 args).run Tryz.prog w = .ok (.enter 105 args) w := fun args w => by kernel_rfl
theorem all_case14 {w0 w : World} {B : Nat} {A : Option Addr} {l : List Node} {c : Nat} (hk : KidsAt w0 B A l c) (hr : Ro w0 B w) :
    Calls Tryz.prog 25 #[.slice A l.length c, .func (.func 105) #[] #[]] w fun e w' => e = .returned (.bool (l.all fun k => k.kind == 14)) ∧ Ro w0 B w' :=
  all_c _ _ enters_case14 hk (fun ad hA i h w hr => case14_c (hk.at_ ad hA i h) hr) hr
set_option maxHeartbeats 40000000 in
set_option maxRecDepth 100000 in
theorem arm16_c {w0 w : World} {B : Nat} {a : Addr} {n : Node} (hn : NodeAt w0 B a n) (hr : Ro w0 B w) :
    Calls Tryz.prog 108 #[.pointer (some a)] w fun e w' => e = .returned (.bool (n.kind == 16)) ∧ Ro w0 B w' := by
  obtain ⟨A, c, hb, c0, c1, c2, c3, c7, hk⟩ := hn.open_
  have hc := hr.cell
  have hl := hk.le
  have hl' := hk.le'
  have hz := hr.lt hb
  go_enter Tryz.func108, Tryz.ntmps108
  go_wp2_with fail
  go_ret
  exact ⟨rfl, hr⟩
theorem enters_arm16 : ∀ args w, (callFunc 108 args).run Tryz.prog w = .ok (.enter 108 args) w := fun args w => by kernel_rfl
theorem all_arm16 {w0 w : World} {B : Nat} {A : Option Addr} {l : List Node} {c : Nat} (hk : KidsAt w0 B A l c) (hr : Ro w0 B w) :
    Calls Tryz.prog 25 #[.slice A l.length c, .func (.func 108) #[] #[]] w fun e w' => e = .returned (.bool (l.all fun k => k.kind == 16)) ∧ Ro w0 B w' :=
  all_c _ _ enters_arm16 hk (fun ad hA i h w hr => arm16_c (hk.at_ ad hA i h) hr) hr
set_option maxHeartbeats 40000000 in
set_option maxRecDepth 100000 in
theorem caseq_c {w0 w : World} {B : Nat} {a : Addr} {n : Node} (hn : NodeAt w0 B a n) (hr : Ro w0 B w) :
    Calls Tryz.prog 107 #[.pointer (some a)] w fun e w' => e = .returned (.bool (decide (2 ≤ n.kids.length) && exprsB false n.kids.dropLast)) ∧ Ro w0 B w' := by
  obtain ⟨A, c, hb, c0, c1, c2, c3, c7, hk⟩ := hn.open_
  have hc := hr.cell
  have hl := hk.le
  have hl' := hk.le'
  have hz := hr.lt hb
  haveI hne : Nonempty (RoW w0 B) := ⟨⟨w, hr⟩⟩
  have hcq : ∀ (p : RoW w0 B) (a : Addr), a.block < B → p.w.cell? a = w0.cell? a := fun p a h => p.cell a h
  by_cases h2 : 2 ≤ n.kids.length
  · have h3 : decide ((2 : Int) ≤ n.kids.length) = true := decide_eq_true (by omega)
    have hlen : (n.kids.dropLast).length = n.kids.length - 1 := by simp
    obtain ⟨ad, rfl⟩ := hk.some_ (by omega)
    have hd : KidsAt w0 B (some ad) n.kids.dropLast c := by rw [List.dropLast_eq_take]; exact hk.take _
    have HT : Hid (∀ p : RoW w0 B, Calls Tryz.prog 25 #[.slice (some ad) (n.kids.length - 1) c, .func (.func 62) #[] #[]] p.w fun e w' => e = .returned (.bool (exprsB false n.kids.dropLast)) ∧ ∃ p : RoW w0 B, w' = p.w) := by
      intro p
      have := exprs_c hd p.ro
      rw [hlen] at this
      exact Calls.ro_of this
    have E : Hid ((decide (2 ≤ n.kids.length) && exprsB false n.kids.dropLast) = exprsB false n.kids.dropLast) := by show _ = _; rw [decide_eq_true h2]; rfl
    have hm1 : 1 ≤ n.kids.length := by omega
    clear hlen hd
    go_enter Tryz.func107, Tryz.ntmps107
    go_wp2_with fail
    all_goals refine wp_region_ro hr (by kernel_rfl) (by kernel_rfl) ?_
    all_goals repeat (any_goals (first
      | go_big_quiet_step (first
          | (go_at_call 25; exact HT.out _))
      | quiet_step (first
          | (go_at_call 25; exact HT.out _))))
    all_goals refine wpQuiet_nil ?_
    all_goals (intro w1 hr1; have hc1 := hr1.cell)
    go_wp2
    go_ret
    exact ⟨ret_bool E.out.symm, hr1⟩
  · have h3 : decide ((2 : Int) ≤ n.kids.length) = false := decide_eq_false (by omega)
    have E : Hid ((decide (2 ≤ n.kids.length) && exprsB false n.kids.dropLast) = false) := by show _ = _; rw [decide_eq_false h2]; rfl
    go_enter Tryz.func107, Tryz.ntmps107
    go_wp2_with fail
    all_goals refine wp_region_ro hr (by kernel_rfl) (by kernel_rfl) ?_
    all_goals repeat (any_goals (first
      | go_big_quiet_step (first
          | fail)
      | quiet_step (first
          | fail)))
    all_goals refine wpQuiet_nil ?_
    all_goals (intro w1 hr1; have hc1 := hr1.cell)
    go_wp2
    go_ret
    exact ⟨ret_bool E.out.symm, hr1⟩
end Go.Proofs.YtjdeomenioagdaaGreatDoor
