/- Functions and files, by the program: tree.Right. -/
import Derived.Test.YtjdeomenioagdaaGreatDoorDepth
set_option linter.unusedVariables false
set_option linter.unusedSimpArgs false
namespace Go.Proofs.YtjdeomenioagdaaGreatDoor
open Go.RowKit
set_option maxHeartbeats 40000000 in
set_option maxRecDepth 100000 in
theorem param_c {w0 w : World} {B : Nat} {a : Addr} {n : Node} (hn : NodeAt w0 B a n) (hr : Ro w0 B w) :
    Calls Tryz.prog 39 #[.pointer (some a)] w fun e w' => e = .returned (.bool (paramB n)) ∧ Ro w0 B w' := by
  obtain ⟨A, c, hb, c0, c1, c2, c3, c7, hk⟩ := hn.open_
  have hc := hr.cell
  have hl := hk.le
  have hl' := hk.le'
  have hz := hr.lt hb
  have ht := hn.text_le
  have hty := hn.type_le
  have E : Hid (paramB n = ((n.kind == 3) && properB n.text && tyB n.type && (lenI n == 0) && bareB n true true false)) := by
    show _ = _
    rw [lenI_zero]
    unfold paramB
    grind
  go_enter Tryz.func39, Tryz.ntmps39
  go_wp2_with (first
    | (go_at_call 36; (with_reducible refine (proper_c (w0 := w0) (B := B) _ ?hr ht).mono ?_); (case hr => first | assumption | exact Ro.alloc (by assumption) _); rintro e w1 ⟨rfl, hr1⟩; have hc1 := hr1.cell)
    | (go_at_call 37; (with_reducible refine (tyright_c _ _ hty).mono ?_); rintro e w' ⟨rfl, rfl⟩)
    | (go_at_call 24; (with_reducible refine (has_c3 hn ?hr).mono ?_); (case hr => first | assumption | exact Ro.alloc (by assumption) _); rintro e w' ⟨rfl, rfl⟩))
  all_goals go_ret
  all_goals refine ⟨ret_bool ?_, by first | assumption | exact Ro.alloc (by assumption) _⟩
  all_goals go_light
  all_goals rw [E.out]
  all_goals first | (simp [lenI, *]; done) | (simp_all; done) | grind [lenI]
theorem enters_param : ∀ args w, (callFunc 39 args).run Tryz.prog w = .ok (.enter 39 args) w := fun args w => by kernel_rfl
def paramsB (l : List Node) : Bool := l.all paramB
theorem params_c {w0 w : World} {B : Nat} {A : Option Addr} {l : List Node} {c : Nat} (hk : KidsAt w0 B A l c) (hr : Ro w0 B w) :
    Calls Tryz.prog 25 #[.slice A l.length c, .func (.func 39) #[] #[]] w fun e w' => e = .returned (.bool (paramsB l)) ∧ Ro w0 B w' :=
  all_c _ _ enters_param hk (fun ad hA i h w hr => param_c (hk.at_ ad hA i h) hr) hr
set_option maxHeartbeats 40000000 in
set_option maxRecDepth 100000 in
theorem function_c {w0 w : World} {B : Nat} {a : Addr} {n : Node} (hn : NodeAt w0 B a n) (hr : Ro w0 B w) :
    Calls Tryz.prog 26 #[.pointer (some a)] w fun e w' => e = .returned (.bool (funcB n)) ∧ Ro w0 B w' := by
  obtain ⟨A, c, hb, c0, c1, c2, c3, c7, hk⟩ := hn.open_
  have hc := hr.cell
  have hl := hk.le
  have hl' := hk.le'
  have hz := hr.lt hb
  have ht := hn.text_le
  have hty := hn.type_le
  by_cases h0 : n.kids.length = 0
  · have E : Hid (funcB n = false) := by
      show _ = _
      simp [funcB, h0]
    have hq : ((n.kids.length : Int) == 0) = true := by rw [beq_iff_eq]; omega
    go_enter Tryz.func26, Tryz.ntmps26
    go_wp2_with (first
    | (go_at_call 36; (with_reducible refine (proper_c (w0 := w0) (B := B) _ ?hr ht).mono ?_); (case hr => first | assumption | exact Ro.alloc (by assumption) _); rintro e w1 ⟨rfl, hr1⟩; have hc1 := hr1.cell)
    | (go_at_call 37; (with_reducible refine (tyright_c _ _ hty).mono ?_); rintro e w' ⟨rfl, rfl⟩)
    | (go_at_call 24; (with_reducible refine (has_c3 hn ?hr).mono ?_); (case hr => first | assumption | exact Ro.alloc (by assumption) _); rintro e w' ⟨rfl, rfl⟩))
    all_goals go_ret
    all_goals refine ⟨ret_bool ?_, by first | assumption | exact Ro.alloc (by assumption) _⟩
    all_goals go_light
    all_goals rw [E.out]
    all_goals first | (simp [*]; done) | (simp_all; done) | grind
  · obtain ⟨ad, rfl⟩ := hk.some_ (by omega)
    have hkid := kid_at hk (i := n.kids.length - 1) (by omega)
    have hlast : lastB n.kids = blockB (n.kids[n.kids.length - 1]) := by
      rw [lastB_eq, List.getLast?_eq_getElem?, List.getElem?_eq_getElem (by omega)]
      rfl
    have E : Hid (funcB n = ((n.kind == 2) && properB n.text && bareB n true true false && (n.type.toList.isEmpty || tyB n.type) && blockB (n.kids[n.kids.length - 1]) && paramsB n.kids.dropLast)) := by
      show _ = _
      rw [← hlast]
      unfold funcB paramsB
      rw [decide_eq_true (by omega : 1 ≤ n.kids.length)]
      grind
    have hq : ((n.kids.length : Int) == 0) = false := by rw [beq_eq_false_iff_ne]; omega
    have hl1 : (0 : Int) < n.kids.length := by omega
    have hd : KidsAt w0 B (some ad) n.kids.dropLast c := by rw [List.dropLast_eq_take]; exact hk.take _
    have HP := fun (w : World) (hr : Ro w0 B w) => params_c hd hr
    rw [show (n.kids.dropLast).length = n.kids.length - 1 from by simp] at HP
    have HP := Lib.hid HP
    generalize n.kids[n.kids.length - 1] = kl at hkid E
    clear hlast hd
    go_enter Tryz.func26, Tryz.ntmps26
    go_wp2_with (first
    | (go_at_call 36; (with_reducible refine (proper_c (w0 := w0) (B := B) _ ?hr ht).mono ?_); (case hr => first | assumption | exact Ro.alloc (by assumption) _); rintro e w1 ⟨rfl, hr1⟩; have hc1 := hr1.cell)
    | (go_at_call 37; (with_reducible refine (tyright_c _ _ hty).mono ?_); rintro e w' ⟨rfl, rfl⟩)
    | (go_at_call 24; (with_reducible refine (has_c3 hn ?hr).mono ?_); (case hr => first | assumption | exact Ro.alloc (by assumption) _); rintro e w' ⟨rfl, rfl⟩)
    | (go_at_call 38; (with_reducible refine (block_c hkid ?hr).mono ?_); (case hr => first | assumption | exact Ro.alloc (by assumption) _); rintro e w1 ⟨rfl, hr1⟩; have hc1 := hr1.cell)
    | (go_at_call 25; (with_reducible refine (HP.out _ ?hr).mono ?_); (case hr => first | assumption | exact Ro.alloc (by assumption) _); rintro e w1 ⟨rfl, hr1⟩; have hc1 := hr1.cell))
    all_goals go_ret
    all_goals refine ⟨ret_bool ?_, by first | assumption | exact Ro.alloc (by assumption) _⟩
    all_goals go_light
    all_goals rw [E.out]
    all_goals first | (simp [*]; done) | (simp_all; done) | grind
theorem enters_function : ∀ args w, (callFunc 26 args).run Tryz.prog w = .ok (.enter 26 args) w := fun args w => by kernel_rfl
def functionsB (l : List Node) : Bool := l.all funcB
theorem functions_c {w0 w : World} {B : Nat} {A : Option Addr} {l : List Node} {c : Nat} (hk : KidsAt w0 B A l c) (hr : Ro w0 B w) :
    Calls Tryz.prog 25 #[.slice A l.length c, .func (.func 26) #[] #[]] w fun e w' => e = .returned (.bool (functionsB l)) ∧ Ro w0 B w' :=
  all_c _ _ enters_function hk (fun ad hA i h w hr => function_c (hk.at_ ad hA i h) hr) hr
/-- A node by value. -/
structure ValAt (w : World) (B : Nat) (A : Option Addr) (n : Node) (c : Nat) : Prop where
  kids : KidsAt w B A n.kids c
  ht : n.text.size ≤ 1048576
  ht' : n.type.size ≤ 1048576
  hi : Int64 n.n
theorem Ro.val {w0 w : World} {B : Nat} (h : Ro w0 B w) {A : Option Addr} {n : Node} {c : Nat} (hv : ValAt w0 B A n c) : ValAt w w.heap.size A n c := ⟨h.kids hv.kids, hv.ht, hv.ht', hv.hi⟩
theorem NodeAt.val {w : World} {B : Nat} {a : Addr} {n : Node} (h : NodeAt w B a n) : ∃ A c, ValAt w B A n c ∧ a.block < B ∧ w.cell? a = some (.int .i64 n.kind) ∧ w.cell? (fld a 1) = some (.string n.text) ∧
    w.cell? (fld a 2) = some (.int .i64 n.n) ∧ w.cell? (fld a 3) = some (.string n.type) ∧ w.cell? (fld a 4) = some (.int .i64 n.slot) ∧ w.cell? (fld a 5) = some (.int .i64 n.at_) ∧ w.cell? (fld a 6) = some (.int .i64 n.line) ∧
    w.cell? (fld a 7) = some (.slice A n.kids.length c) := by
  cases h with
  | mk _ _ A c hb h1 h2 h3 c0 c1 c2 c3 c4 c5 c6 c7 hc hc' hcc hA hk => exact ⟨A, c, ⟨⟨hc, hc', hcc, hA, hk⟩, h1, h2, h3⟩, hb, c0, c1, c2, c3, c4, c5, c6, c7⟩
theorem boxed {W : World} {g : Nat} {n : Node} {A : Option Addr} {c : Nat} (hv : ValAt W W.heap.size A n c) (gz : g < W.heap.size) (g0 : W.cell? ⟨g, 0, none⟩ = some (.int .i64 n.kind)) (g1 : W.cell? ⟨g, 1, none⟩ = some (.string n.text)) (g2 : W.cell? ⟨g, 2, none⟩ = some (.int .i64 n.n))
    (g3 : W.cell? ⟨g, 3, none⟩ = some (.string n.type)) (g4 : W.cell? ⟨g, 4, none⟩ = some (.int .i64 n.slot)) (g5 : W.cell? ⟨g, 5, none⟩ = some (.int .i64 n.at_)) (g6 : W.cell? ⟨g, 6, none⟩ = some (.int .i64 n.line)) (g7 : W.cell? ⟨g, 7, none⟩ = some (.slice A n.kids.length c)) :
    NodeAt W W.heap.size ⟨g, 0, none⟩ n :=
  .mk _ _ A c gz hv.ht hv.ht' hv.hi g0 (by show W.cell? ⟨g, 0 + 1, none⟩ = _; rw [Nat.zero_add]; exact g1) (by show W.cell? ⟨g, 0 + 2, none⟩ = _; rw [Nat.zero_add]; exact g2) (by show W.cell? ⟨g, 0 + 3, none⟩ = _; rw [Nat.zero_add]; exact g3)
    (by show W.cell? ⟨g, 0 + 4, none⟩ = _; rw [Nat.zero_add]; exact g4) (by show W.cell? ⟨g, 0 + 5, none⟩ = _; rw [Nat.zero_add]; exact g5) (by show W.cell? ⟨g, 0 + 6, none⟩ = _; rw [Nat.zero_add]; exact g6) (by show W.cell? ⟨g, 0 + 7, none⟩ = _; rw [Nat.zero_add]; exact g7) hv.kids.le hv.kids.le' hv.kids.cap hv.kids.some_ hv.kids.at_
set_option maxHeartbeats 40000000 in
set_option maxRecDepth 100000 in
theorem right_c {w0 w : World} {B : Nat} {A : Option Addr} {c : Nat} {n : Node} (hv : ValAt w0 B A n c) (hr : Ro w0 B w) (hs : n.size ≤ 1048576) :
    Calls Tryz.prog 10 #[.agg #[.int .i64 n.kind, .string n.text, .int .i64 n.n, .string n.type, .int .i64 n.slot, .int .i64 n.at_, .int .i64 n.line, .slice A n.kids.length c]] w fun e w' => e = .returned (.int .i64 (rightD n)) ∧ Ro w0 B w' := by
  have hk := hv.kids
  have E : Hid (rightD n = if 40 < depthD n 40 then 42 else if (n.kind == 1) && bareB n false false false && functionsB n.kids then 0 else 41) := rfl
  go_enter Tryz.func10, Tryz.ntmps10
  go_wp2_with fail
  obtain ⟨W, hW⟩ : ∃ W, W = w.alloc (.cells (nodeV n A c) 25) := ⟨_, rfl⟩
  have hW' : w.alloc (.cells (nodeV n A c) 25) = W := hW.symm
  unfold nodeV at hW'
  rw [hW']
  clear hW'
  have hrW : Ro w0 B W := hW ▸ hr.alloc _
  have gall : ∀ j, W.cell? ⟨w.heap.size, j, none⟩ = (nodeV n A c)[j]? := fun j => by rw [hW]; exact cell_new _ _ _ _
  have gz : w.heap.size < W.heap.size := by rw [hW]; simp
  clear hW
  generalize w.heap.size = g at gall gz ⊢
  have g0 : W.cell? ⟨g, 0, none⟩ = some (.int .i64 n.kind) := gall 0
  have g1 : W.cell? ⟨g, 1, none⟩ = some (.string n.text) := gall 1
  have g2 : W.cell? ⟨g, 2, none⟩ = some (.int .i64 n.n) := gall 2
  have g3 : W.cell? ⟨g, 3, none⟩ = some (.string n.type) := gall 3
  have g4 : W.cell? ⟨g, 4, none⟩ = some (.int .i64 n.slot) := gall 4
  have g5 : W.cell? ⟨g, 5, none⟩ = some (.int .i64 n.at_) := gall 5
  have g6 : W.cell? ⟨g, 6, none⟩ = some (.int .i64 n.line) := gall 6
  have g7 : W.cell? ⟨g, 7, none⟩ = some (.slice A n.kids.length c) := gall 7
  clear gall
  have hkW := hrW.kids hk
  have hnb := boxed (hrW.val hv) gz g0 g1 g2 g3 g4 g5 g6 g7
  have hrs := Ro.self W
  go_wp2_with (first
    | (go_at_call 13; (with_reducible refine (depth_c hkW ?hr hs (by omega) (by omega)).mono ?_); (case hr => first | assumption | exact Ro.alloc (by assumption) _); rintro e w1 ⟨rfl, hr1⟩; have hc1 := hr1.cell)
    | (go_at_call 24; (with_reducible refine (has_c0 hnb ?hr).mono ?_); (case hr => first | assumption | exact Ro.alloc (by assumption) _); rintro e w' ⟨rfl, rfl⟩)
    | (go_at_call 25; (with_reducible refine (functions_c hkW ?hr).mono ?_); (case hr => first | assumption | exact Ro.alloc (by assumption) _); rintro e w1 ⟨rfl, hr1⟩; have hc1 := hr1.cell))
  all_goals go_ret
  all_goals refine ⟨ret_int ?_, hrW.trans_ (by assumption)⟩
  all_goals go_light
  all_goals rw [E.out]
  all_goals first | (simp [*]; done) | (simp_all; done) | grind
end Go.Proofs.YtjdeomenioagdaaGreatDoor
