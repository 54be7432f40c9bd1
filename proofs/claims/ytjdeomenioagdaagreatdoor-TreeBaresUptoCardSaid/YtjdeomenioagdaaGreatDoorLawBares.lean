/- The walk of TreeBares. -/
import Derived.Test.YtjdeomenioagdaaGreatDoorAlive
set_option linter.unusedVariables false
set_option linter.unusedSimpArgs false
namespace Go.Proofs.YtjdeomenioagdaaGreatDoor
open Go.RowKit
/-- Two nodes in boxes. -/
theorem two_new (w : World) (cs cs' : Array Value) : ((w.alloc (.cells cs 25)).alloc (.cells cs' 25)).heap.size = w.heap.size + 2 ∧ (∀ j, ((w.alloc (.cells cs 25)).alloc (.cells cs' 25)).cell? ⟨w.heap.size, j, none⟩ = cs[j]?) ∧ (∀ j, ((w.alloc (.cells cs 25)).alloc (.cells cs' 25)).cell? ⟨w.heap.size + 1, j, none⟩ = cs'[j]?) ∧ Below w.heap.size w ((w.alloc (.cells cs 25)).alloc (.cells cs' 25)) := by
  refine ⟨by simp, fun j => ?_, fun j => ?_, (((Below.refl _ _).alloc (Nat.le_refl _) _).alloc (by simp) _)⟩
  · have h : ((w.alloc (.cells cs 25)).alloc (.cells cs' 25)).heap[w.heap.size]? = some (.cells cs 25 (0, 0)) := by
      rw [Lib.alloc_old _ _ _ (by simp)]
      exact heap_alloc_new w _
    exact Lib.cell_of_heap h j
  · have h := heap_alloc_new (w.alloc (.cells cs 25)) (.cells cs' 25)
    rw [show (w.alloc (.cells cs 25)).heap.size = w.heap.size + 1 from by simp] at h
    exact Lib.cell_of_heap h j
set_option maxHeartbeats 40000000 in
set_option maxRecDepth 100000 in
theorem treebares_c {w0 w : World} {B : Nat} {A A' : Option Addr} {c c' : Nat} {a b : Node} {most : Int} (he : Env w0 B) (hva : ValAt w0 B A a c) (hvb : ValAt w0 B A' b c') (hr : Ro w0 B w) (hsa : a.size ≤ 1048576) (hsb : b.size ≤ 1048576) (hwa : a.wt ≤ 5000000) (h1 : -9223372036854775808 ≤ most) (h2 : most ≤ 9223372036854775807) :
    Calls Tryz.prog 6 #[.agg #[.int .i64 a.kind, .string a.text, .int .i64 a.n, .string a.type, .int .i64 a.slot, .int .i64 a.at_, .int .i64 a.line, .slice A a.kids.length c], .agg #[.int .i64 b.kind, .string b.text, .int .i64 b.n, .string b.type, .int .i64 b.slot, .int .i64 b.at_, .int .i64 b.line, .slice A' b.kids.length c'], .int .i64 most] w fun e w' => e = .returned (.bool true) ∧ Ro w0 B w' := by
  go_enter Tryz.func6, Tryz.ntmps6
  go_wp2_with fail
  obtain ⟨z1, gall, kall, hWb⟩ := two_new w #[.int .i64 a.kind, .string a.text, .int .i64 a.n, .string a.type, .int .i64 a.slot, .int .i64 a.at_, .int .i64 a.line, .slice A a.kids.length c] #[.int .i64 b.kind, .string b.text, .int .i64 b.n, .string b.type, .int .i64 b.slot, .int .i64 b.at_, .int .i64 b.line, .slice A' b.kids.length c']
  generalize (w.alloc (.cells #[.int .i64 a.kind, .string a.text, .int .i64 a.n, .string a.type, .int .i64 a.slot, .int .i64 a.at_, .int .i64 a.line, .slice A a.kids.length c] 25)).alloc (.cells #[.int .i64 b.kind, .string b.text, .int .i64 b.n, .string b.type, .int .i64 b.slot, .int .i64 b.at_, .int .i64 b.line, .slice A' b.kids.length c'] 25) = W at z1 gall kall hWb ⊢
  have hrW : Ro w0 B W := hr.below_ hWb
  generalize hg : w.heap.size = g at gall kall z1 ⊢
  have hgz : g < W.heap.size := by omega
  have hgz' : g + 1 < W.heap.size := by omega
  have g0 : W.cell? ⟨g, 0, none⟩ = some (.int .i64 a.kind) := gall 0
  have g1 : W.cell? ⟨g, 1, none⟩ = some (.string a.text) := gall 1
  have g2 : W.cell? ⟨g, 2, none⟩ = some (.int .i64 a.n) := gall 2
  have g3 : W.cell? ⟨g, 3, none⟩ = some (.string a.type) := gall 3
  have g4 : W.cell? ⟨g, 4, none⟩ = some (.int .i64 a.slot) := gall 4
  have g5 : W.cell? ⟨g, 5, none⟩ = some (.int .i64 a.at_) := gall 5
  have g6 : W.cell? ⟨g, 6, none⟩ = some (.int .i64 a.line) := gall 6
  have g7 : W.cell? ⟨g, 7, none⟩ = some (.slice A a.kids.length c) := gall 7
  have k0 : W.cell? ⟨g + 1, 0, none⟩ = some (.int .i64 b.kind) := kall 0
  have k1 : W.cell? ⟨g + 1, 1, none⟩ = some (.string b.text) := kall 1
  have k2 : W.cell? ⟨g + 1, 2, none⟩ = some (.int .i64 b.n) := kall 2
  have k3 : W.cell? ⟨g + 1, 3, none⟩ = some (.string b.type) := kall 3
  have k4 : W.cell? ⟨g + 1, 4, none⟩ = some (.int .i64 b.slot) := kall 4
  have k5 : W.cell? ⟨g + 1, 5, none⟩ = some (.int .i64 b.at_) := kall 5
  have k6 : W.cell? ⟨g + 1, 6, none⟩ = some (.int .i64 b.line) := kall 6
  have k7 : W.cell? ⟨g + 1, 7, none⟩ = some (.slice A' b.kids.length c') := kall 7

  clear gall kall hWb hg z1
  have heW := he.at_ hrW
  have hva := hrW.val hva
  have hvb := hrW.val hvb
  have hrs := Ro.self W
  have HA := fun w (hr : Ro W W.heap.size w) => alive_c heW hr
  have HG1 := fun w (hr : Ro W W.heap.size w) => great_c hva.kids hr hsa
  have HG2 := fun w (hr : Ro W W.heap.size w) => great_c hvb.kids hr hsb
  have t1 : greatB a = true ∨ greatB a = false := by cases greatB a <;> simp
  have t2 : greatB b = true ∨ greatB b = false := by cases greatB b <;> simp
  have HRE : Hid (∀ w', Ro W W.heap.size w' → Ro w0 B w') := fun w' h => hrW.trans_ h
  rcases t1 with p1 | p1 <;> rcases t2 with p2 | p2
  all_goals rw [p1] at HG1
  all_goals rw [p2] at HG2
  all_goals replace HA := Lib.hid HA
  all_goals replace HG1 := Lib.hid HG1
  all_goals replace HG2 := Lib.hid HG2
  all_goals clear p1 p2
  all_goals go_wp2_with (first
    | (go_at_call 7; (with_reducible refine (HA.out _ ?hr).mono ?_); (case hr => assumption); rintro e w1 ⟨rfl, hr1⟩; have hc1 := hr1.cell)
    | (go_at_call 8; (first
        | (with_reducible refine (HG1.out _ ?hr).mono ?_); (case hr => assumption); rintro e w2 ⟨rfl, hr2⟩; have hc2 := hr2.cell
        | (with_reducible refine (HG2.out _ ?hr).mono ?_); (case hr => assumption); rintro e w3 ⟨rfl, hr3⟩; have hc3 := hr3.cell)))
  iterate 3
    · go_ret
      exact ⟨rfl, HRE.out _ hr3⟩
  refine (bare_c hva hr3).mono ?_
  rintro e w4 ⟨A4, c4, rfl, hb4, hv4⟩
  have hr4 : Ro W W.heap.size w4 := hr3.below_ hb4
  have hc4 := hr4.cell
  have hz4 : W.heap.size ≤ w4.heap.size := hr4.size
  have ha4 : g < w4.heap.size := by omega
  have hb4' : g + 1 < w4.heap.size := by omega
  go_wp2_with fail
  refine (bare_c hvb (hr4.alloc _)).mono ?_
  rintro e w5 ⟨A5, c5, rfl, hb5, hv5⟩
  have hz5 := hb5.size
  rw [show (w4.alloc (.cells #[.int .i64 (bareN a).kind, .string (bareN a).text, .int .i64 (bareN a).n, .string (bareN a).type, .int .i64 (bareN a).slot, .int .i64 (bareN a).at_, .int .i64 (bareN a).line, .slice A4 (bareN a).kids.length c4] 25)).heap.size = w4.heap.size + 1 from by simp] at hz5 hb5 hv5
  have hr5 : Ro W W.heap.size w5 := (hr4.alloc _).below_ (by rw [show (w4.alloc (.cells #[.int .i64 (bareN a).kind, .string (bareN a).text, .int .i64 (bareN a).n, .string (bareN a).type, .int .i64 (bareN a).slot, .int .i64 (bareN a).at_, .int .i64 (bareN a).line, .slice A4 (bareN a).kids.length c4] 25)).heap.size = w4.heap.size + 1 from by simp]; exact hb5)
  have hc5 := hr5.cell
  have ha5 : g < w5.heap.size := by omega
  have hb5' : g + 1 < w5.heap.size := by omega
  have x5 : ∀ j, w5.cell? ⟨w4.heap.size, j, none⟩ = (nodeV (bareN a) A4 c4)[j]? := fun j => (hb5.cell (p := ⟨w4.heap.size, j, none⟩) (by show w4.heap.size < w4.heap.size + 1; omega)).trans (cell_new _ _ _ _)
  go_wp2_with fail
  have yall : ∀ j, (w5.alloc (.cells #[.int .i64 (bareN b).kind, .string (bareN b).text, .int .i64 (bareN b).n, .string (bareN b).type, .int .i64 (bareN b).slot, .int .i64 (bareN b).at_, .int .i64 (bareN b).line, .slice A5 (bareN b).kids.length c5] 25)).cell? ⟨w5.heap.size, j, none⟩ = (nodeV (bareN b) A5 c5)[j]? := fun j => cell_new _ _ _ _
  have hrV : Ro W W.heap.size (w5.alloc (.cells #[.int .i64 (bareN b).kind, .string (bareN b).text, .int .i64 (bareN b).n, .string (bareN b).type, .int .i64 (bareN b).slot, .int .i64 (bareN b).at_, .int .i64 (bareN b).line, .slice A5 (bareN b).kids.length c5] 25)) := hr5.alloc _
  have xall : ∀ j, (w5.alloc (.cells #[.int .i64 (bareN b).kind, .string (bareN b).text, .int .i64 (bareN b).n, .string (bareN b).type, .int .i64 (bareN b).slot, .int .i64 (bareN b).at_, .int .i64 (bareN b).line, .slice A5 (bareN b).kids.length c5] 25)).cell? ⟨w4.heap.size, j, none⟩ = (nodeV (bareN a) A4 c4)[j]? := fun j => (World.cell?_of_block (a := ⟨w4.heap.size, j, none⟩) (Below.heap_alloc _ _ _ (by show w4.heap.size < w5.heap.size; omega))).trans (x5 j)
  have zV : (w5.alloc (.cells #[.int .i64 (bareN b).kind, .string (bareN b).text, .int .i64 (bareN b).n, .string (bareN b).type, .int .i64 (bareN b).slot, .int .i64 (bareN b).at_, .int .i64 (bareN b).line, .slice A5 (bareN b).kids.length c5] 25)).heap.size = w5.heap.size + 1 := by simp
  have vx := hv4.frame (w' := w5.alloc (.cells #[.int .i64 (bareN b).kind, .string (bareN b).text, .int .i64 (bareN b).n, .string (bareN b).type, .int .i64 (bareN b).slot, .int .i64 (bareN b).at_, .int .i64 (bareN b).line, .slice A5 (bareN b).kids.length c5] 25)) (fun g _ hg => (Below.heap_alloc _ _ _ (by omega)).trans ((hb5.block g (by omega)).trans (Below.heap_alloc _ _ _ hg))) (Nat.le_refl _) (Nat.le_refl _)
  have vy := hv5.frame (w' := w5.alloc (.cells #[.int .i64 (bareN b).kind, .string (bareN b).text, .int .i64 (bareN b).n, .string (bareN b).type, .int .i64 (bareN b).slot, .int .i64 (bareN b).at_, .int .i64 (bareN b).line, .slice A5 (bareN b).kids.length c5] 25)) (fun g _ hg => Below.heap_alloc _ _ _ hg) (Nat.le_refl _) (Nat.le_refl _)
  generalize w5.alloc (.cells #[.int .i64 (bareN b).kind, .string (bareN b).text, .int .i64 (bareN b).n, .string (bareN b).type, .int .i64 (bareN b).slot, .int .i64 (bareN b).at_, .int .i64 (bareN b).line, .slice A5 (bareN b).kids.length c5] 25) = V at yall xall hrV zV vx vy ⊢
  have vx := vx.val (B := V.heap.size) (by omega)
  have vy := vy.val (B := V.heap.size) (by omega)
  have va := hrV.val hva
  have vb := hrV.val hvb
  have heV := heW.at_ hrV
  have hcV := hrV.cell
  have hgV : g < V.heap.size := by omega
  have hgV' : g + 1 < V.heap.size := by omega
  have hxV : w4.heap.size < V.heap.size := by omega
  have hyV : w5.heap.size < V.heap.size := by omega
  generalize w4.heap.size = gx at xall hxV ⊢
  generalize w5.heap.size = gy at yall hyV ⊢
  have xx0 : V.cell? ⟨gx, 0, none⟩ = some (.int .i64 (bareN a).kind) := xall 0
  have xx1 : V.cell? ⟨gx, 1, none⟩ = some (.string (bareN a).text) := xall 1
  have xx2 : V.cell? ⟨gx, 2, none⟩ = some (.int .i64 (bareN a).n) := xall 2
  have xx3 : V.cell? ⟨gx, 3, none⟩ = some (.string (bareN a).type) := xall 3
  have xx4 : V.cell? ⟨gx, 4, none⟩ = some (.int .i64 (bareN a).slot) := xall 4
  have xx5 : V.cell? ⟨gx, 5, none⟩ = some (.int .i64 (bareN a).at_) := xall 5
  have xx6 : V.cell? ⟨gx, 6, none⟩ = some (.int .i64 (bareN a).line) := xall 6
  have xx7 : V.cell? ⟨gx, 7, none⟩ = some (.slice A4 (bareN a).kids.length c4) := xall 7
  have yy0 : V.cell? ⟨gy, 0, none⟩ = some (.int .i64 (bareN b).kind) := yall 0
  have yy1 : V.cell? ⟨gy, 1, none⟩ = some (.string (bareN b).text) := yall 1
  have yy2 : V.cell? ⟨gy, 2, none⟩ = some (.int .i64 (bareN b).n) := yall 2
  have yy3 : V.cell? ⟨gy, 3, none⟩ = some (.string (bareN b).type) := yall 3
  have yy4 : V.cell? ⟨gy, 4, none⟩ = some (.int .i64 (bareN b).slot) := yall 4
  have yy5 : V.cell? ⟨gy, 5, none⟩ = some (.int .i64 (bareN b).at_) := yall 5
  have yy6 : V.cell? ⟨gy, 6, none⟩ = some (.int .i64 (bareN b).line) := yall 6
  have yy7 : V.cell? ⟨gy, 7, none⟩ = some (.slice A5 (bareN b).kids.length c5) := yall 7

  have ga0 := (hcV ⟨g, 0, none⟩ hgz).trans g0
  have gb0 := (hcV ⟨g + 1, 0, none⟩ hgz').trans k0
  have ga1 := (hcV ⟨g, 1, none⟩ hgz).trans g1
  have gb1 := (hcV ⟨g + 1, 1, none⟩ hgz').trans k1
  have ga2 := (hcV ⟨g, 2, none⟩ hgz).trans g2
  have gb2 := (hcV ⟨g + 1, 2, none⟩ hgz').trans k2
  have ga3 := (hcV ⟨g, 3, none⟩ hgz).trans g3
  have gb3 := (hcV ⟨g + 1, 3, none⟩ hgz').trans k3
  have ga4 := (hcV ⟨g, 4, none⟩ hgz).trans g4
  have gb4 := (hcV ⟨g + 1, 4, none⟩ hgz').trans k4
  have ga5 := (hcV ⟨g, 5, none⟩ hgz).trans g5
  have gb5 := (hcV ⟨g + 1, 5, none⟩ hgz').trans k5
  have ga6 := (hcV ⟨g, 6, none⟩ hgz).trans g6
  have gb6 := (hcV ⟨g + 1, 6, none⟩ hgz').trans k6
  have ga7 := (hcV ⟨g, 7, none⟩ hgz).trans g7
  have gb7 := (hcV ⟨g + 1, 7, none⟩ hgz').trans k7
  have HRV : Hid (∀ w', Ro V V.heap.size w' → Ro w0 B w') := fun w' h => HRE.out _ (hrV.trans_ h)
  clear yall xall hcV hc5 hc4 hr5 hr4 hb5 hb4 hv4 hv5 x5 hz5 hz4 zV
  have HS1 := fun w (hr : Ro V V.heap.size w) => same_c va vb hr
  have HS2 := fun w (hr : Ro V V.heap.size w) => same_c vx vy hr
  have HS3 := fun w (hr : Ro V V.heap.size w) => same_c vb va hr
  have HS4 := fun w (hr : Ro V V.heap.size w) => same_c va va hr
  have HS5 := fun w (hr : Ro V V.heap.size w) => same_c va vx hr
  have HS6 := fun w (hr : Ro V V.heap.size w) => same_c vx va hr
  have hsx : (bareN a).size ≤ 1048576 := by rw [size_bare]; exact hsa
  have HT1 := fun w (hr : Ro V V.heap.size w) => text_c heV va hr hsa (fun h => text_size a h hwa)
  have HT2 := fun w (hr : Ro V V.heap.size w) => text_c heV vx hr hsx (fun h => by rw [rightD_bare] at h; rw [textS_bare a h]; exact text_size a h hwa)
  have HR1 := fun w (hr : Ro V V.heap.size w) => right_c va hr hsa
  have HR2 := fun w (hr : Ro V V.heap.size w) => right_c vx hr hsx
  have HC1 := fun w (hr : Ro V V.heap.size w) => count_c (most := most) va.kids hr hsa h1 h2
  have HC2 := fun w (hr : Ro V V.heap.size w) => count_c (most := most) vx.kids hr hsx h1 h2
  have HD1 := fun w (hr : Ro V V.heap.size w) => depth_c (most := most) va.kids hr hsa h1 h2
  have HD2 := fun w (hr : Ro V V.heap.size w) => depth_c (most := most) vx.kids hr hsx h1 h2
  rw [same_bare] at HS2
  rw [same_symm] at HS3
  rw [same_self] at HS4
  rw [same_own] at HS5
  rw [same_own'] at HS6
  rw [textD_bare, rightD_bare] at HT2
  rw [rightD_bare] at HR2
  rw [countD_bare] at HC2
  rw [depthD_bare] at HD2
  have ts : sameB a b = true ∨ sameB a b = false := by cases sameB a b <;> simp
  have hne := Ro.nonempty V
  have hcq := @RoW.cells V V.heap.size
  have hrV0 := Ro.self V
  have hXT : ((textD a).toList == (textD a).toList) = true := beq_self_eq_true _
  have hXR : (rightD a == rightD a) = true := beq_self_eq_true _
  have hXC : (countD a most == countD a most) = true := beq_self_eq_true _
  have hXD : (depthD a most == depthD a most) = true := beq_self_eq_true _
  clear hva hvb he heW hr hrV hr3 hrs heV va vb vx vy
  rcases ts with ps | ps
  all_goals rw [ps] at HS1 HS2 HS3
  all_goals replace HS1 := Lib.hid HS1
  all_goals replace HS2 := Lib.hid HS2
  all_goals replace HS3 := Lib.hid HS3
  all_goals replace HS4 := Lib.hid HS4
  all_goals replace HS5 := Lib.hid HS5
  all_goals replace HS6 := Lib.hid HS6
  all_goals replace HT1 := Lib.hid HT1
  all_goals replace HT2 := Lib.hid HT2
  all_goals replace HR1 := Lib.hid HR1
  all_goals replace HR2 := Lib.hid HR2
  all_goals replace HC1 := Lib.hid HC1
  all_goals replace HC2 := Lib.hid HC2
  all_goals replace HD1 := Lib.hid HD1
  all_goals replace HD2 := Lib.hid HD2
  all_goals clear ps
  all_goals (refine (HS1.out _ hrV0).mono ?_; rintro e v1 ⟨rfl, hv1⟩; have hd1 := hv1.cell)
  all_goals go_wp2_with (first
    | (go_at_call 19; (first
        | (with_reducible refine (HS2.out _ ?hr).mono ?_); (case hr => assumption); rintro e v2 ⟨rfl, hv2⟩; have hd2 := hv2.cell
        | (with_reducible refine (HS3.out _ ?hr).mono ?_); (case hr => assumption); rintro e v3 ⟨rfl, hv3⟩; have hd3 := hv3.cell
        | (with_reducible refine (HS4.out _ ?hr).mono ?_); (case hr => assumption); rintro e v4 ⟨rfl, hv4⟩; have hd4 := hv4.cell
        | (with_reducible refine (HS5.out _ ?hr).mono ?_); (case hr => assumption); rintro e v5 ⟨rfl, hv5⟩; have hd5 := hv5.cell
        | (with_reducible refine (HS6.out _ ?hr).mono ?_); (case hr => assumption); rintro e v6 ⟨rfl, hv6⟩; have hd6 := hv6.cell))
    | (go_at_call 11; (first
        | (with_reducible refine (HT1.out _ ?hr).mono ?_); (case hr => assumption); rintro e v7 ⟨rfl, hv7⟩; have hd7 := hv7.cell
        | (with_reducible refine (HT2.out _ ?hr).mono ?_); (case hr => assumption); rintro e v8 ⟨rfl, hv8⟩; have hd8 := hv8.cell)))
  all_goals refine wp_region_ro hv8 (by kernel_rfl) (by kernel_rfl) ?_
  all_goals repeat (any_goals (first
    | go_big_quiet_step (first
      | (go_at_call 10; (with_reducible exact Calls.ro_of (HR1.out _ (RoW.ro _))))
      | (go_at_call 10; (with_reducible exact Calls.ro_of (HR2.out _ (RoW.ro _))))
      | (go_at_call 12; (with_reducible exact Calls.ro_of (HC1.out _ (RoW.ro _))))
      | (go_at_call 12; (with_reducible exact Calls.ro_of (HC2.out _ (RoW.ro _))))
      | (go_at_call 13; (with_reducible exact Calls.ro_of (HD1.out _ (RoW.ro _))))
      | (go_at_call 13; (with_reducible exact Calls.ro_of (HD2.out _ (RoW.ro _)))))
    | quiet_step (first
      | (go_at_call 10; (with_reducible exact Calls.ro_of (HR1.out _ (RoW.ro _))))
      | (go_at_call 10; (with_reducible exact Calls.ro_of (HR2.out _ (RoW.ro _))))
      | (go_at_call 12; (with_reducible exact Calls.ro_of (HC1.out _ (RoW.ro _))))
      | (go_at_call 12; (with_reducible exact Calls.ro_of (HC2.out _ (RoW.ro _))))
      | (go_at_call 13; (with_reducible exact Calls.ro_of (HD1.out _ (RoW.ro _))))
      | (go_at_call 13; (with_reducible exact Calls.ro_of (HD2.out _ (RoW.ro _)))))))
  all_goals refine wpQuiet_nil ?_
  all_goals (intro w9 hr9)
  all_goals go_wp2_with fail
  all_goals go_ret
  all_goals exact ⟨rfl, HRV.out _ hr9⟩
end Go.Proofs.YtjdeomenioagdaaGreatDoor
