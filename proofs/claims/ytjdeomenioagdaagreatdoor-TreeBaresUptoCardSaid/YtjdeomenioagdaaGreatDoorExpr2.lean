/- Expressions: which are right, by the program: the functions that call each other. -/
import Derived.Test.YtjdeomenioagdaaGreatDoorExpr
import Derived.Deep.Light
set_option linter.unusedVariables false
set_option linter.unusedSimpArgs false
namespace Go.Proofs.YtjdeomenioagdaaGreatDoor
open Go.RowKit
def ExprIH (w0 : World) (B m : Nat) : Prop := ∀ (a : Addr) (n : Node) (w : World), NodeAt w0 B a n → n.size ≤ m → Ro w0 B w →
  Calls Tryz.prog 62 #[.pointer (some a)] w fun e w' => e = .returned (.bool (exprB n)) ∧ Ro w0 B w'
theorem isEmpty_len (l : List Node) : l.isEmpty = decide ((l.length : Int) = 0) := by cases l <;> simp <;> omega
theorem item_none : itemB false = exprB := by funext k; simp [itemB]
theorem exprsB_no (l : List Node) : exprsB false l = l.all exprB := by rw [exprsB_all, item_none]
set_option maxHeartbeats 4000000 in
theorem item_c {w0 w : World} {B : Nat} {a : Addr} {n : Node} {m : Nat} (ih : ExprIH w0 B m) (hn : NodeAt w0 B a n) (hm : n.size ≤ m) (hr : Ro w0 B w) :
    Calls Tryz.prog 103 #[.pointer (some a)] w fun e w' => e = .returned (.bool (itemB true n)) ∧ Ro w0 B w' := by
  have H := Lib.hid (ih a n w hn hm hr)
  have hh := Lib.hid (has_c1 hn hr)
  obtain ⟨A, c, hb, c0, c1, c2, c3, c7, hk⟩ := hn.open_
  have hc := hr.cell
  have hl := hk.le
  have hl' := hk.le'
  clear hk hn ih
  go_enter Tryz.func103, Tryz.ntmps103
  go_wp2_with (first
    | (go_at_call 24; refine hh.out.mono ?_; rintro e w' ⟨rfl, rfl⟩)
    | (go_at_call 62; refine H.out.mono ?_; rintro e w' ⟨rfl, hr'⟩))
  all_goals go_ret
  all_goals refine ⟨ret_bool ?_, by assumption⟩
  all_goals go_light
  all_goals clear H hh c0 c1 c2 c3 c7 hc hr hl hl'
  all_goals first | (simp_all [itemB, bareB, marksB, isEmpty_len]; done) | grind [itemB, bareB, marksB, isEmpty_len]
theorem kids_tell {w0 : World} {B : Nat} {A : Option Addr} {n : Node} {c m : Nat} (ih : ExprIH w0 B m) (hk : KidsAt w0 B A n.kids c) (hm : n.size ≤ m + 1) : Tells 62 exprB w0 B A n.kids := by
  intro ad hA i h w hr
  have := n.size_kid (List.getElem_mem h)
  exact ih _ _ _ (hk.at_ ad hA i h) (by omega) hr
theorem items_tell {w0 : World} {B : Nat} {A : Option Addr} {n : Node} {c m : Nat} (ih : ExprIH w0 B m) (hk : KidsAt w0 B A n.kids c) (hm : n.size ≤ m + 1) : Tells 103 (itemB true) w0 B A n.kids := by
  intro ad hA i h w hr
  have := n.size_kid (List.getElem_mem h)
  exact item_c ih (hk.at_ ad hA i h) (by omega) hr
theorem enters_expr : ∀ args w, (callFunc 62 args).run Tryz.prog w = .ok (.enter 62 args) w := fun args w => by kernel_rfl
theorem enters_item : ∀ args w, (callFunc 103 args).run Tryz.prog w = .ok (.enter 103 args) w := fun args w => by kernel_rfl
theorem all_expr {w0 w : World} {B : Nat} {A : Option Addr} {n : Node} {c m : Nat} (ih : ExprIH w0 B m) (hk : KidsAt w0 B A n.kids c) (hm : n.size ≤ m + 1) (hr : Ro w0 B w) :
    Calls Tryz.prog 25 #[.slice A n.kids.length c, .func (.func 62) #[] #[]] w fun e w' => e = .returned (.bool (exprsB false n.kids)) ∧ Ro w0 B w' := by
  rw [exprsB_no]
  exact all_c _ _ enters_expr hk (kids_tell ih hk hm) hr
theorem all_item {w0 w : World} {B : Nat} {A : Option Addr} {n : Node} {c m : Nat} (ih : ExprIH w0 B m) (hk : KidsAt w0 B A n.kids c) (hm : n.size ≤ m + 1) (hr : Ro w0 B w) :
    Calls Tryz.prog 25 #[.slice A n.kids.length c, .func (.func 103) #[] #[]] w fun e w' => e = .returned (.bool (exprsB true n.kids)) ∧ Ro w0 B w' := by
  rw [exprsB_all]
  exact all_c _ _ enters_item hk (items_tell ih hk hm) hr
theorem sign_has (t : ByteArray) : [[43], [45], [33], [60, 45]].contains t.toList = signB t := by
  simp only [List.contains_cons, List.contains_nil, signB, isT, Bool.or_false, Bool.or_assoc]
theorem meth_has (t : ByteArray) : [[76, 111, 99, 107], [85, 110, 108, 111, 99, 107], [65, 100, 100], [68, 111, 110, 101], [87, 97, 105, 116]].contains t.toList = methB t := by
  simp only [List.contains_cons, List.contains_nil, methB, isT, Bool.or_false, Bool.or_assoc]
theorem sign_c (x : ByteArray) (w : World) (b : Nat) (hw : w.heap[b]? = some (.cells #[.string ⟨#[43]⟩, .string ⟨#[45]⟩, .string ⟨#[33]⟩, .string ⟨#[60, 45]⟩] 9 (0, 0))) :
    Calls Tryz.prog 101 #[.slice (some ⟨b, 0, none⟩) 4 4, .string x] w fun e w' => e = .returned (.bool (signB x)) ∧ w = w' := by
  rw [← sign_has]
  exact contains_c [[43], [45], [33], [60, 45]] b x w (by decide) (fun j hj => by rw [cell_of_row _ _ _ _ _ _ hw]; exact strs_at [[43], [45], [33], [60, 45]] j hj)
theorem meth_c (x : ByteArray) (w : World) (b : Nat) (hw : w.heap[b]? = some (.cells #[.string ⟨#[76, 111, 99, 107]⟩, .string ⟨#[85, 110, 108, 111, 99, 107]⟩, .string ⟨#[65, 100, 100]⟩, .string ⟨#[68, 111, 110, 101]⟩, .string ⟨#[87, 97, 105, 116]⟩] 9 (0, 0))) :
    Calls Tryz.prog 101 #[.slice (some ⟨b, 0, none⟩) 5 5, .string x] w fun e w' => e = .returned (.bool (methB x)) ∧ w = w' := by
  rw [← meth_has]
  exact contains_c [[76, 111, 99, 107], [85, 110, 108, 111, 99, 107], [65, 100, 100], [68, 111, 110, 101], [87, 97, 105, 116]] b x w (by decide) (fun j hj => by rw [cell_of_row _ _ _ _ _ _ hw]; exact strs_at [[76, 111, 99, 107], [85, 110, 108, 111, 99, 107], [65, 100, 100], [68, 111, 110, 101], [87, 97, 105, 116]] j hj)
def lenI (n : Node) : Int := n.kids.length
theorem lenI_zero (n : Node) : (lenI n == 0) = n.kids.isEmpty := by unfold lenI; cases n.kids with | nil => rfl | cons a r => simp; omega
theorem lenI_one (n : Node) : (lenI n == 1) = (n.kids.length == 1) := by unfold lenI; rw [Bool.eq_iff_iff, beq_iff_eq, beq_iff_eq]; omega
theorem lenI_two (n : Node) : (lenI n == 2) = (n.kids.length == 2) := by unfold lenI; rw [Bool.eq_iff_iff, beq_iff_eq, beq_iff_eq]; omega
theorem lenI_le (n : Node) : decide (lenI n ≤ 1) = decide (n.kids.length ≤ 1) := by unfold lenI; rw [decide_eq_decide]; omega
theorem lenI_ge (n : Node) : decide (1 ≤ lenI n) = decide (1 ≤ n.kids.length) := by unfold lenI; rw [decide_eq_decide]; omega
theorem expr_cases (n : Node) :
    (n.kind = 21 ∧ Hid (exprB n = (properB n.text && (lenI n == 0) && bareB n true false false))) ∨
    (n.kind = 22 ∧ Hid (exprB n = (decide (0 ≤ n.n) && (lenI n == 0) && bareB n false false true))) ∨
    (n.kind = 23 ∧ Hid (exprB n = ((n.n == 0 || n.n == 1) && (lenI n == 0) && bareB n false false true))) ∨
    (n.kind = 24 ∧ Hid (exprB n = ((lenI n == 0) && bareB n false false false))) ∨
    (n.kind = 26 ∧ n.kids.length = 1 ∧ Hid (exprB n = (signB n.text && bareB n true false false && exprsB false n.kids))) ∨
    (n.kind = 26 ∧ ((n.kids.length : Int) == 1) = false ∧ Hid (exprB n = false)) ∨
    (n.kind = 27 ∧ Hid (exprB n = (decide (0 < bindsI n.text) && (lenI n == 2) && bareB n true false false && exprsB false n.kids))) ∨
    (n.kind = 28 ∧ (((n.text.toList = [108, 101, 110] ∨ n.text.toList = [99, 97, 112]) ∨ n.text.toList = [99, 108, 111, 115, 101]) ∨ n.text.toList = [121, 105, 101, 108, 100]) ∧ Hid (exprB n = (bareB n true false false && exprsB false n.kids))) ∨
    (n.kind = 28 ∧ n.text.toList = [112, 114, 105, 110, 116, 108, 110] ∧ Hid (exprB n = (bareB n true false false && exprsB true n.kids))) ∨
    (n.kind = 28 ∧ (n.text.toList == [108, 101, 110]) = false ∧ (n.text.toList == [99, 97, 112]) = false ∧ (n.text.toList == [99, 108, 111, 115, 101]) = false ∧ (n.text.toList == [121, 105, 101, 108, 100]) = false ∧ (n.text.toList == [112, 114, 105, 110, 116, 108, 110]) = false ∧ Hid (exprB n = (properB n.text && bareB n true false false && exprsB false n.kids))) ∨
    (n.kind = 29 ∧ Hid (exprB n = (decide (lenI n ≤ 1) && bareB n false true false && tyB n.type && exprsB false n.kids))) ∨
    (n.kind = 30 ∧ Hid (exprB n = (decide (1 ≤ lenI n) && bareB n true false false && methB n.text && exprsB false n.kids))) ∨
    ((n.kind == 21) = false ∧ (n.kind == 22) = false ∧ (n.kind == 23) = false ∧ (n.kind == 24) = false ∧ (n.kind == 26) = false ∧ (n.kind == 27) = false ∧ (n.kind == 28) = false ∧ (n.kind == 29) = false ∧ (n.kind == 30) = false ∧ Hid (exprB n = false)) := by
  unfold Hid
  rw [exprB_eq, lenI_zero, lenI_two, lenI_le, lenI_ge]
  by_cases h21 : n.kind = 21
  · left; simp [h21, leafB, bareB, marksB]; grind
  by_cases h22 : n.kind = 22
  · right; left; simp [h22, leafB, bareB, marksB]; grind
  by_cases h23 : n.kind = 23
  · right; right; left; simp [h23, leafB, bareB, marksB]; grind
  by_cases h24 : n.kind = 24
  · right; right; right; left; simp [h24, leafB, bareB, marksB]
  by_cases h26 : n.kind = 26
  · right; right; right; right
    by_cases hl : n.kids.length = 1
    · left; simp [h26, hl, bareB, marksB]; grind
    · right; left
      refine ⟨h26, ?_, ?_⟩
      · rw [beq_eq_false_iff_ne]; omega
      · simp [h26, hl]
  by_cases h27 : n.kind = 27
  · right; right; right; right; right; right; left; simp [h27, bareB, marksB]; grind
  by_cases h28 : n.kind = 28
  · right; right; right; right; right; right; right
    by_cases hw : (isT n.text [108, 101, 110] || isT n.text [99, 97, 112] || isT n.text [99, 108, 111, 115, 101] || isT n.text [121, 105, 101, 108, 100]) = true
    · left
      have hp : isT n.text [112, 114, 105, 110, 116, 108, 110] = false := by
        simp only [isT, Bool.or_eq_true, beq_iff_eq] at hw
        simp only [isT, beq_eq_false_iff_ne]
        rcases hw with ((h | h) | h) | h <;> rw [h] <;> decide
      refine ⟨h28, by simpa only [isT, Bool.or_eq_true, beq_iff_eq] using hw, ?_⟩
      simp only [h28, callB, cwordB, hw, hp, bareB, marksB]
      simp; grind
    · right
      have hw' : (isT n.text [108, 101, 110] || isT n.text [99, 97, 112] || isT n.text [99, 108, 111, 115, 101] || isT n.text [121, 105, 101, 108, 100]) = false := by simpa using hw
      by_cases hp : isT n.text [112, 114, 105, 110, 116, 108, 110] = true
      · left
        refine ⟨h28, by simpa only [isT, beq_iff_eq] using hp, ?_⟩
        simp only [h28, callB, cwordB, hw', hp, bareB, marksB]
        simp; grind
      · right; left
        have hp' : isT n.text [112, 114, 105, 110, 116, 108, 110] = false := by simpa using hp
        have hw2 := hw'
        simp only [isT, Bool.or_eq_false_iff] at hw2
        refine ⟨h28, hw2.1.1.1, hw2.1.1.2, hw2.1.2, hw2.2, hp', ?_⟩
        simp only [h28, callB, cwordB, hw', hp', bareB, marksB]
        simp; grind
  by_cases h29 : n.kind = 29
  · right; right; right; right; right; right; right; right; right; right; left; simp [h29, bareB, marksB]; grind
  by_cases h30 : n.kind = 30
  · right; right; right; right; right; right; right; right; right; right; right; left; simp [h30, bareB, marksB]; grind
  right; right; right; right; right; right; right; right; right; right; right; right
  simp [h21, h22, h23, h24, h26, h27, h28, h29, h30, leafB]
set_option maxHeartbeats 40000000 in
set_option maxRecDepth 100000 in
theorem expr_unary {w0 w : World} {B : Nat} {a : Addr} {n : Node} {m : Nat} (ih : ExprIH w0 B m) (hn : NodeAt w0 B a n) (hm : n.size ≤ m + 1) (hr : Ro w0 B w) (h0 : n.kind = 26) (h1 : n.kids.length = 1)
    (H : Hid (exprB n = (signB n.text && bareB n true false false && exprsB false n.kids))) :
    Calls Tryz.prog 62 #[.pointer (some a)] w fun e w' => e = .returned (.bool (exprB n)) ∧ Ro w0 B w' := by
  obtain ⟨A, c, hb, c0, c1, c2, c3, c7, hk⟩ := hn.open_
  obtain ⟨k0, hk0⟩ : ∃ k0, n.kids = [k0] := List.length_eq_one_iff.1 h1
  obtain ⟨ad, rfl⟩ := hk.some_ (by omega)
  have hke : ∀ w, Ro w0 B w → Calls Tryz.prog 62 #[.pointer (some ad)] w fun e w' => e = .returned (.bool (exprsB false n.kids)) ∧ Ro w0 B w' := by
    intro w hr
    have h2 := hk.at_ ad rfl 0 (by omega)
    have h3 := n.size_kid (List.getElem_mem (by omega : 0 < n.kids.length))
    simp only [hk0, List.getElem_cons_zero, Nat.zero_mul] at h2 h3
    have h4 := ih _ _ w h2 (by omega) hr
    simp only [hk0, exprsB_no, List.all_cons, List.all_nil, Bool.and_true]
    exact h4
  have HK := Lib.hid hke
  have H1 := Lib.hid h1
  have hl1 : 0 < n.kids.length := by omega
  have hc := hr.cell
  have hl := hk.le
  have hl' := hk.le'
  have ht := hn.text_le
  have hz := hr.lt hb
  clear hke hk0
  go_enter Tryz.func62, Tryz.ntmps62
  go_wp2_with (first
    | (go_at_call 62; (with_reducible refine (HK.out _ ?hr).mono ?_); (case hr => first | assumption | exact Ro.alloc (by assumption) _); rintro e w1 ⟨rfl, hr1⟩)
    | (go_at_call 24; (first
        | (with_reducible refine (has_c0 hn ?hr).mono ?_)
        | (with_reducible refine (has_c1 hn ?hr).mono ?_)
        | (with_reducible refine (has_c2 hn ?hr).mono ?_)
        | (with_reducible refine (has_c4 hn ?hr).mono ?_)); (case hr => first | assumption | exact Ro.alloc (by assumption) _); rintro e w' ⟨rfl, rfl⟩)
    | (go_at_call 36; (with_reducible refine (proper_c (w0 := w0) (B := B) _ ?hr ht).mono ?_); (case hr => first | assumption | exact Ro.alloc (by assumption) _); rintro e w1 ⟨rfl, hr1⟩; have hc1 := hr1.cell; have hz1 := hr1.lt hb)
    | (go_at_call 101; (first
        | (with_reducible refine (sign_c _ _ _ ?hw).mono ?_)
        | (with_reducible refine (meth_c _ _ _ ?hw).mono ?_)); (case hw => exact heap_alloc_new _ _); rintro e w' ⟨rfl, rfl⟩)
    | (go_at_call 102; (with_reducible refine (binds_c _ _).mono ?_); rintro e w1 ⟨rfl, rfl⟩)
    | (go_at_call 25; (first
        | (with_reducible refine (all_expr ih hk hm ?hr).mono ?_)
        | (with_reducible refine (all_item ih hk hm ?hr).mono ?_)); (case hr => first | assumption | exact Ro.alloc (by assumption) _); rintro e w1 ⟨rfl, hr1⟩; have hc1 := hr1.cell; have hz1 := hr1.lt hb))
  all_goals go_ret
  all_goals refine ⟨ret_bool ?_, by first | assumption | exact Ro.alloc (by assumption) _⟩
  all_goals go_light
  all_goals rw [H.out]
  all_goals clear H HK H1 hn hr hk ih c0 c1 c2 c3 c7 hc hz hl hl' ht hb hm
  all_goals first | (simp [*]; done) | (simp_all; done) | grind
set_option maxHeartbeats 40000000 in
set_option maxRecDepth 100000 in
theorem expr_step {w0 w : World} {B : Nat} {a : Addr} {n : Node} {m : Nat} (ih : ExprIH w0 B m) (hn : NodeAt w0 B a n) (hm : n.size ≤ m + 1) (hr : Ro w0 B w) :
    Calls Tryz.prog 62 #[.pointer (some a)] w fun e w' => e = .returned (.bool (exprB n)) ∧ Ro w0 B w' := by
  obtain ⟨A, c, hb, c0, c1, c2, c3, c7, hk⟩ := hn.open_
  have hc := hr.cell
  have hl := hk.le
  have hl' := hk.le'
  have ht := hn.text_le
  have hty := hn.type_le
  have hz := hr.lt hb
  rcases expr_cases n with ⟨h0, H⟩ | ⟨h0, H⟩ | ⟨h0, H⟩ | ⟨h0, H⟩ | ⟨h0, h1, H⟩ | ⟨h0, h1, H⟩ | ⟨h0, H⟩ | ⟨h0, ((hw | hw) | hw) | hw, H⟩ | ⟨h0, hw, H⟩ | ⟨h0, q1, q2, q3, q4, q5, H⟩ | ⟨h0, H⟩ | ⟨h0, H⟩ | ⟨h1, h2, h3, h4, h5, h6, h7, h8, h9, H⟩
  rotate_left 4
  · exact expr_unary ih hn hm hr h0 h1 H
  all_goals go_enter Tryz.func62, Tryz.ntmps62
  all_goals go_wp2_with (first
    | (go_at_call 24; (first
        | (with_reducible refine (has_c0 hn ?hr).mono ?_)
        | (with_reducible refine (has_c1 hn ?hr).mono ?_)
        | (with_reducible refine (has_c2 hn ?hr).mono ?_)
        | (with_reducible refine (has_c4 hn ?hr).mono ?_)); (case hr => first | assumption | exact Ro.alloc (by assumption) _); rintro e w' ⟨rfl, rfl⟩)
    | (go_at_call 36; (with_reducible refine (proper_c (w0 := w0) (B := B) _ ?hr ht).mono ?_); (case hr => first | assumption | exact Ro.alloc (by assumption) _); rintro e w1 ⟨rfl, hr1⟩; have hc1 := hr1.cell; have hz1 := hr1.lt hb)
    | (go_at_call 101; (first
        | (with_reducible refine (sign_c _ _ _ ?hw).mono ?_)
        | (with_reducible refine (meth_c _ _ _ ?hw).mono ?_)); (case hw => exact heap_alloc_new _ _); rintro e w' ⟨rfl, rfl⟩)
    | (go_at_call 37; (with_reducible refine (tyright_c _ _ hty).mono ?_); rintro e w1 ⟨rfl, rfl⟩)
    | (go_at_call 102; (with_reducible refine (binds_c _ _).mono ?_); rintro e w1 ⟨rfl, rfl⟩)
    | (go_at_call 25; (first
        | (with_reducible refine (all_expr ih hk hm ?hr).mono ?_)
        | (with_reducible refine (all_item ih hk hm ?hr).mono ?_)); (case hr => first | assumption | exact Ro.alloc (by assumption) _); rintro e w1 ⟨rfl, hr1⟩; have hc1 := hr1.cell; have hz1 := hr1.lt hb))
  all_goals go_ret
  all_goals refine ⟨ret_bool ?_, by first | assumption | exact Ro.alloc (by assumption) _⟩
  all_goals go_light
  all_goals rw [H.out]
  all_goals clear H hn hr hk ih c0 c1 c2 c3 c7 hc hz hl hl' ht hty hb hm
  all_goals try unfold lenI
  all_goals first | (simp [*]; done) | (simp_all; done) | grind
end Go.Proofs.YtjdeomenioagdaaGreatDoor
