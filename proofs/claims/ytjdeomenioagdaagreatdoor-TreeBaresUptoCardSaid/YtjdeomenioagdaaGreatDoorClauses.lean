/- Cases and arms, by the program. -/
import Derived.Test.YtjdeomenioagdaaGreatDoorLoop
set_option linter.unusedVariables false
set_option linter.unusedSimpArgs false
namespace Go.Proofs.YtjdeomenioagdaaGreatDoor
open Go.RowKit
set_option maxHeartbeats 40000000 in
set_option maxRecDepth 100000 in
theorem all_inv (fv : FuncId) (cap : Array Value) (p : Nat → Bool) (Inv : Nat → World → Prop) (Fin : World → Prop) (hfv : ∀ args w, (callFunc fv args).run Tryz.prog w = .ok (.enter fv args) w) {w : World} {A : Option Addr} {l c : Nat}
    (hl : l ≤ c) (hl' : l ≤ 1048576) (hA : 0 < l → ∃ ad, A = some ad)
    (hstep : ∀ ad, A = some ad → ∀ k, k < l → ∀ w, Inv k w → Calls Tryz.prog fv (#[.pointer (some (ad.add (k * 8)))] ++ cap) w fun e w' => e = .returned (.bool (p k)) ∧ (p k = true → Inv (k + 1) w') ∧ (p k = false → Fin w'))
    (hfin : ∀ w, Inv l w → Fin w) (h0 : Inv 0 w) :
    Calls Tryz.prog 25 #[.slice A l c, .func (.func fv) #[] cap] w fun e w' => e = .returned (.bool ((List.range l).all p)) ∧ Fin w' := by
  have HS := Lib.hid hstep
  have HF := Lib.hid hfin
  clear hstep hfin
  go_enter Tryz.func25, Tryz.ntmps25
  go_wp2
  go_loopw [5, 8] (fun _ u wr => ∃ k : Nat, k ≤ l ∧ u = .int .i64 k ∧ Hid ((List.range k).all p = true) ∧ Hid (Inv k wr)) (fun _ u _ => (l - (intOf u).toNat : Nat))
  case atStart => exact ⟨0, by omega, rfl, rfl, h0⟩
  case round =>
    obtain ⟨k, hkl, rfl, H, hI⟩ := hrel
    by_cases hlt : k < l
    · obtain ⟨ad, rfl⟩ := hA (by omega)
      have HC := Lib.hid (HS.out ad rfl k hlt wr hI.out)
      have tok : p k = true ∨ p k = false := by cases p k <;> simp
      rcases tok with hp | hp
      · have HN : Hid ((List.range (k + 1)).all p = true) := by
          show _ = _
          rw [List.range_succ, List.all_append, H.out, List.all_cons, hp]
          rfl
        clear H
        go_wp2_with ((with_reducible refine HC.out.mono ?_); rintro e w' ⟨rfl, hr1, hr2⟩)
        exact ⟨⟨k + 1, by omega, by go_num, HN, hr1 hp⟩, by simp [intOf]; omega⟩
      · have HN : Hid ((List.range l).all p = false) := by
          show _ = _
          rw [List.all_eq_false]
          exact ⟨k, List.mem_range.2 hlt, by simp [hp]⟩
        clear H
        go_wp2_with ((with_reducible refine HC.out.mono ?_); rintro e w' ⟨rfl, hr1, hr2⟩)
        go_ret
        exact ⟨ret_bool HN.out.symm, hr2 hp⟩
    · obtain rfl : k = l := by omega
      have HN : Hid ((List.range k).all p = true) := H
      clear H
      go_wp2
      go_ret
      exact ⟨ret_bool HN.out.symm, HF.out _ hI.out⟩
/-- What of a clause does not hang on its kind. -/
def okC (n : Node) : Bool := (n.n == 0 || n.n == 1) && bareB n false false true && decide (1 ≤ n.kids.length) && lastB n.kids
def pC (q : Node → Bool) (D : Int) (n : Node) : Bool := okC n && (if n.n == 1 then (D + n.n == 1) && n.kids.length == 1 else q n)
structure CellsC (gd gi : Nat) (fi : FuncId) (D : Int) (w : World) : Prop where
  d : w.heap[gd]? = some (.cells #[.int .i64 D] 3 (0, 0))
  i : w.cell? ⟨gi, 0, none⟩ = some (.func (.func fi) #[] #[])
structure PostC (w0 : World) (B gd gi : Nat) (fi : FuncId) (q : Node → Bool) (D : Int) (n : Node) (e : Ending) (w' : World) : Prop where
  e : e = .returned (.bool (pC q D n))
  ro : Ro w0 B w'
  c : CellsC gd gi fi (if okC n then D + n.n else D) w'
theorem pC_one {q : Node → Bool} {D : Int} {n : Node} (E : okC n = true) (hv : n.n = 1) : pC q D n = ((D + 1 == 1) && (lenI n == 1)) := by
  unfold pC
  rw [E, hv, lenI_one]
  simp
def W2 (w1 : World) (gd : Nat) (x : Int) : World := (w1.setCell ⟨gd, 0, none⟩ (.int .i64 x)).drew
theorem W2.ro {w0 w w1 : World} {B gd : Nat} {x : Int} (hr : Ro w0 B w) (hr1 : Ro w w.heap.size w1) (hgd : B ≤ gd) : Ro w0 B (W2 w1 gd x) := ((hr.trans_ hr1).set_ (p := ⟨gd, 0, none⟩) hgd _).drew
theorem W2.cells {w w1 : World} {gd gi : Nat} {fi : FuncId} {D x : Int} (hr1 : Ro w w.heap.size w1) (hc' : CellsC gd gi fi D w) (dz : gd < w.heap.size) (iz : gi < w.heap.size) (hne' : gd ≠ gi) : CellsC gd gi fi x (W2 w1 gd x) := by
  have h1 : w1.heap[gd]? = some (.cells #[.int .i64 D] 3 (0, 0)) := (hr1.below.block _ dz).trans hc'.d
  have h2 : w1.cell? ⟨gi, 0, none⟩ = some (.func (.func fi) #[] #[]) := (hr1.cell _ iz).trans hc'.i
  refine ⟨?_, ?_⟩
  · show (w1.setCell ⟨gd, 0, none⟩ (.int .i64 x)).heap[gd]? = _
    simp [World.setCell, Array.getElem?_modify, h1]
  · show (w1.setCell ⟨gd, 0, none⟩ (.int .i64 x)).cell? _ = _
    rw [World.cell?_setCell_other _ _ _ _ (by simp [hne'])]
    exact h2
theorem CellsC.keep {w w' : World} {gd gi : Nat} {fi : FuncId} {D : Int} (h : CellsC gd gi fi D w) (hr : Ro w w.heap.size w') : CellsC gd gi fi D w' := by
  have dz : gd < w.heap.size := World.block_lt_of_cell? w ⟨gd, 0, none⟩ (cell_of_row _ _ 0 _ _ _ h.d)
  have iz : gi < w.heap.size := World.block_lt_of_cell? w _ h.i
  exact ⟨(hr.below.block _ dz).trans h.d, (hr.cell _ iz).trans h.i⟩
theorem PostC.yes {w0 w w1 w3 : World} {B gd gi : Nat} {fi : FuncId} {q : Node → Bool} {D x : Int} {b : Bool} {n : Node} (E : okC n = true) (hr : Ro w0 B w) (hr1 : Ro w w.heap.size w1) (hc' : CellsC gd gi fi D w) (dz : gd < w.heap.size) (iz : gi < w.heap.size) (hne' : gd ≠ gi) (hgd : B ≤ gd)
    (hx : x = D + n.n) (hb : b = pC q D n) (h3 : Ro (W2 w1 gd x) (W2 w1 gd x).heap.size w3) : PostC w0 B gd gi fi q D n (.returned (.bool b)) w3 :=
  ⟨ret_bool hb, (W2.ro hr hr1 hgd).trans_ h3, by rw [E, if_pos rfl, ← hx]; exact (W2.cells hr1 hc' dz iz hne').keep h3⟩
theorem PostC.no {w0 w w1 : World} {B gd gi : Nat} {fi : FuncId} {q : Node → Bool} {D : Int} {n : Node} (E : okC n = false) (hr : Ro w0 B w) (hr1 : Ro w w.heap.size w1) (hc' : CellsC gd gi fi D w) (dz : gd < w.heap.size) (iz : gi < w.heap.size) :
    PostC w0 B gd gi fi q D n (.returned (.bool false)) w1 :=
  ⟨ret_bool (by unfold pC; rw [E]; rfl), hr.trans_ hr1, by rw [E]; exact ⟨(hr1.below.block _ dz).trans hc'.d, (hr1.cell _ iz).trans hc'.i⟩⟩
set_option maxHeartbeats 40000000 in
set_option maxRecDepth 100000 in
theorem clause_no1 {w0 w : World} {B gd gi : Nat} {fi : FuncId} {q : Node → Bool} {D : Int} {a : Addr} {n : Node} {m : Nat} (ih : StmtIH m) (hn : NodeAt w0 B a n) (hm : n.size ≤ m + 1) (hr : Ro w0 B w)
    (hgd : B ≤ gd) (hgi : B ≤ gi) (hne' : gd ≠ gi) (hD0 : 0 ≤ D) (hD : D ≤ 1048576) (hc' : CellsC gd gi fi D w) (hfi : ∀ args w, (callFunc fi args).run Tryz.prog w = .ok (.enter fi args) w)
    (hq : ∀ W, NodeAt W W.heap.size a n → Calls Tryz.prog fi #[.pointer (some a)] W fun e w' => e = .returned (.bool (q n)) ∧ Ro W W.heap.size w')
    (h0 : (n.n != 0) = true) (h1 : (n.n != 1) = true) :
    Calls Tryz.prog 144 #[.pointer (some a), .pointer (some ⟨gd, 0, none⟩), .pointer (some ⟨gi, 0, none⟩)] w (PostC w0 B gd gi fi q D n) := by
  have hnW := hr.node hn
  obtain ⟨A, c, hb, c0, c1, c2, c3, c7, hk⟩ := hnW.open_
  have hl := hk.le
  have hl' := hk.le'
  have hne := Ro.nonempty w
  have hcq := @RoW.cells w w.heap.size
  have d0 : w.cell? ⟨gd, 0, none⟩ = some (.int .i64 D) := cell_of_row _ _ _ _ _ _ hc'.d
  have d1 := hc'.i
  have dz : gd < w.heap.size := World.block_lt_of_cell? w _ d0
  have iz : gi < w.heap.size := World.block_lt_of_cell? w _ d1
  have HQ := Lib.hid hq
  clear hq
  have E : Hid (okC n = false) := by
    show _ = _
    rw [bne_iff_ne] at h0 h1
    simp [okC, h0, h1]
  go_enter Tryz.func144, Tryz.ntmps144
  go_wp2_with fail
  all_goals refine wp_region_ro (Ro.self w) (by kernel_rfl) (by kernel_rfl) ?_
  all_goals repeat (any_goals (first
    | go_big_quiet_step (first
        | fail)
    | quiet_step (first
        | fail)))
  all_goals refine wpQuiet_nil ?_
  all_goals (intro w1 hr1; have hc1 := hr1.cell)
  go_wp2
  go_ret
  exact PostC.no E.out hr hr1 hc' dz iz
set_option maxHeartbeats 40000000 in
set_option maxRecDepth 100000 in
theorem clause_no2 {w0 w : World} {B gd gi : Nat} {fi : FuncId} {q : Node → Bool} {D : Int} {a : Addr} {n : Node} {m : Nat} (ih : StmtIH m) (hn : NodeAt w0 B a n) (hm : n.size ≤ m + 1) (hr : Ro w0 B w)
    (hgd : B ≤ gd) (hgi : B ≤ gi) (hne' : gd ≠ gi) (hD0 : 0 ≤ D) (hD : D ≤ 1048576) (hc' : CellsC gd gi fi D w) (hfi : ∀ args w, (callFunc fi args).run Tryz.prog w = .ok (.enter fi args) w)
    (hq : ∀ W, NodeAt W W.heap.size a n → Calls Tryz.prog fi #[.pointer (some a)] W fun e w' => e = .returned (.bool (q n)) ∧ Ro W W.heap.size w')
    (hv : n.n = 0 ∨ n.n = 1) (hbad : bareB n false false true = false ∨ bareB n false false true = true ∧ n.kids.length = 0) :
    Calls Tryz.prog 144 #[.pointer (some a), .pointer (some ⟨gd, 0, none⟩), .pointer (some ⟨gi, 0, none⟩)] w (PostC w0 B gd gi fi q D n) := by
  have hnW := hr.node hn
  obtain ⟨A, c, hb, c0, c1, c2, c3, c7, hk⟩ := hnW.open_
  have hl := hk.le
  have hl' := hk.le'
  have hne := Ro.nonempty w
  have hcq := @RoW.cells w w.heap.size
  have d0 : w.cell? ⟨gd, 0, none⟩ = some (.int .i64 D) := cell_of_row _ _ _ _ _ _ hc'.d
  have d1 := hc'.i
  have dz : gd < w.heap.size := World.block_lt_of_cell? w _ d0
  have iz : gi < w.heap.size := World.block_lt_of_cell? w _ d1
  have HQ := Lib.hid hq
  clear hq
  have E : Hid (okC n = false) := by
    show _ = _
    rcases hbad with h | ⟨_, h⟩ <;> simp [okC, h]
  rcases hv with hv | hv
  all_goals rcases hbad with hb1 | ⟨hb1, hlen⟩
  all_goals try (have hq0 : ((n.kids.length : Int) == 0) = true := by rw [beq_iff_eq]; omega)
  all_goals go_enter Tryz.func144, Tryz.ntmps144
  all_goals go_wp2_with fail
  all_goals refine wp_region_ro (Ro.self w) (by kernel_rfl) (by kernel_rfl) ?_
  all_goals repeat (any_goals (first
    | go_big_quiet_step (first
        | (go_at_call 24; exact Calls.ro_same (has_c4 hnW (RoW.ro _))))
    | quiet_step (first
        | (go_at_call 24; exact Calls.ro_same (has_c4 hnW (RoW.ro _))))))
  all_goals refine wpQuiet_nil ?_
  all_goals (intro w1 hr1; have hc1 := hr1.cell)
  all_goals go_wp2
  all_goals go_ret
  all_goals exact PostC.no E.out hr hr1 hc' dz iz
set_option maxHeartbeats 40000000 in
set_option maxRecDepth 100000 in
theorem clause_no3 {w0 w : World} {B gd gi : Nat} {fi : FuncId} {q : Node → Bool} {D : Int} {a : Addr} {n : Node} {m : Nat} (ih : StmtIH m) (hn : NodeAt w0 B a n) (hm : n.size ≤ m + 1) (hr : Ro w0 B w)
    (hgd : B ≤ gd) (hgi : B ≤ gi) (hne' : gd ≠ gi) (hD0 : 0 ≤ D) (hD : D ≤ 1048576) (hc' : CellsC gd gi fi D w) (hfi : ∀ args w, (callFunc fi args).run Tryz.prog w = .ok (.enter fi args) w)
    (hq : ∀ W, NodeAt W W.heap.size a n → Calls Tryz.prog fi #[.pointer (some a)] W fun e w' => e = .returned (.bool (q n)) ∧ Ro W W.heap.size w')
    (hv : n.n = 0 ∨ n.n = 1) (hb1 : bareB n false false true = true) (hlen : 0 < n.kids.length) (hbl : lastB n.kids = false) :
    Calls Tryz.prog 144 #[.pointer (some a), .pointer (some ⟨gd, 0, none⟩), .pointer (some ⟨gi, 0, none⟩)] w (PostC w0 B gd gi fi q D n) := by
  have hnW := hr.node hn
  obtain ⟨A, c, hb, c0, c1, c2, c3, c7, hk⟩ := hnW.open_
  have hl := hk.le
  have hl' := hk.le'
  have hne := Ro.nonempty w
  have hcq := @RoW.cells w w.heap.size
  have d0 : w.cell? ⟨gd, 0, none⟩ = some (.int .i64 D) := cell_of_row _ _ _ _ _ _ hc'.d
  have d1 := hc'.i
  have dz : gd < w.heap.size := World.block_lt_of_cell? w _ d0
  have iz : gi < w.heap.size := World.block_lt_of_cell? w _ d1
  have HQ := Lib.hid hq
  clear hq
  obtain ⟨ad, rfl⟩ := hk.some_ hlen
  have hkid := kid_at hk (i := n.kids.length - 1) (by omega)
  have hks : (n.kids[n.kids.length - 1]).size ≤ m := by
    have := n.size_kid (List.getElem_mem (by omega : n.kids.length - 1 < n.kids.length))
    omega
  have hlast : lastB n.kids = blockB (n.kids[n.kids.length - 1]) := by
    rw [lastB_eq, List.getLast?_eq_getElem?, List.getElem?_eq_getElem (by omega)]
    rfl
  have E : Hid (okC n = false) := by
    show _ = _
    have h1 : decide (1 ≤ n.kids.length) = true := decide_eq_true (by omega)
    rcases hv with h | h <;> simp only [okC, hb1, h, h1, hbl] <;> simp
  have hl1 : (0 : Int) < n.kids.length := by omega
  have hq0 : ((n.kids.length : Int) == 0) = false := by rw [beq_eq_false_iff_ne]; omega
  rw [hlast] at hbl
  generalize n.kids[n.kids.length - 1] = kl at hkid hks hbl
  clear hlast
  rcases hv with hv | hv
  all_goals go_enter Tryz.func144, Tryz.ntmps144
  all_goals go_wp2_with fail
  all_goals refine wp_region_ro (Ro.self w) (by kernel_rfl) (by kernel_rfl) ?_
  all_goals repeat (any_goals (first
    | go_big_quiet_step (first
        | (go_at_call 24; exact Calls.ro_same (has_c4 hnW (RoW.ro _)))
        | (go_at_call 38; exact Calls.ro_of (block_step ih hkid (by omega) (RoW.ro _))))
    | quiet_step (first
        | (go_at_call 24; exact Calls.ro_same (has_c4 hnW (RoW.ro _)))
        | (go_at_call 38; exact Calls.ro_of (block_step ih hkid (by omega) (RoW.ro _))))))
  all_goals refine wpQuiet_nil ?_
  all_goals (intro w1 hr1; have hc1 := hr1.cell)
  all_goals go_wp2
  all_goals go_ret
  all_goals exact PostC.no E.out hr hr1 hc' dz iz
set_option maxHeartbeats 40000000 in
set_option maxRecDepth 100000 in
theorem clause_yes {w0 w : World} {B gd gi : Nat} {fi : FuncId} {q : Node → Bool} {D : Int} {a : Addr} {n : Node} {m : Nat} (ih : StmtIH m) (hn : NodeAt w0 B a n) (hm : n.size ≤ m + 1) (hr : Ro w0 B w)
    (hgd : B ≤ gd) (hgi : B ≤ gi) (hne' : gd ≠ gi) (hD0 : 0 ≤ D) (hD : D ≤ 1048576) (hc' : CellsC gd gi fi D w) (hfi : ∀ args w, (callFunc fi args).run Tryz.prog w = .ok (.enter fi args) w)
    (hq : ∀ W, NodeAt W W.heap.size a n → Calls Tryz.prog fi #[.pointer (some a)] W fun e w' => e = .returned (.bool (q n)) ∧ Ro W W.heap.size w')
    (hv : n.n = 0 ∨ n.n = 1) (hb1 : bareB n false false true = true) (hlen : 0 < n.kids.length) (hbl : lastB n.kids = true) :
    Calls Tryz.prog 144 #[.pointer (some a), .pointer (some ⟨gd, 0, none⟩), .pointer (some ⟨gi, 0, none⟩)] w (PostC w0 B gd gi fi q D n) := by
  have hnW := hr.node hn
  obtain ⟨A, c, hb, c0, c1, c2, c3, c7, hk⟩ := hnW.open_
  have hl := hk.le
  have hl' := hk.le'
  have hne := Ro.nonempty w
  have hcq := @RoW.cells w w.heap.size
  have d0 : w.cell? ⟨gd, 0, none⟩ = some (.int .i64 D) := cell_of_row _ _ _ _ _ _ hc'.d
  have d1 := hc'.i
  have dz : gd < w.heap.size := World.block_lt_of_cell? w _ d0
  have iz : gi < w.heap.size := World.block_lt_of_cell? w _ d1
  have HQ := Lib.hid hq
  clear hq
  obtain ⟨ad, rfl⟩ := hk.some_ hlen
  have hkid := kid_at hk (i := n.kids.length - 1) (by omega)
  have hks : (n.kids[n.kids.length - 1]).size ≤ m := by
    have := n.size_kid (List.getElem_mem (by omega : n.kids.length - 1 < n.kids.length))
    omega
  have hlast : lastB n.kids = blockB (n.kids[n.kids.length - 1]) := by
    rw [lastB_eq, List.getLast?_eq_getElem?, List.getElem?_eq_getElem (by omega)]
    rfl
  have E : Hid (okC n = true) := by
    show _ = _
    have h1 : decide (1 ≤ n.kids.length) = true := decide_eq_true (by omega)
    rcases hv with h | h <;> simp only [okC, hb1, h, h1, hbl] <;> simp
  have hl1 : (0 : Int) < n.kids.length := by omega
  have hq0 : ((n.kids.length : Int) == 0) = false := by rw [beq_eq_false_iff_ne]; omega
  rw [hlast] at hbl
  generalize n.kids[n.kids.length - 1] = kl at hkid hks hbl
  clear hlast
  rcases hv with hv | hv
  all_goals go_enter Tryz.func144, Tryz.ntmps144
  all_goals go_wp2_with fail
  all_goals refine wp_region_ro (Ro.self w) (by kernel_rfl) (by kernel_rfl) ?_
  all_goals repeat (any_goals (first
    | go_big_quiet_step (first
        | (go_at_call 24; exact Calls.ro_same (has_c4 hnW (RoW.ro _)))
        | (go_at_call 38; exact Calls.ro_of (block_step ih hkid (by omega) (RoW.ro _))))
    | quiet_step (first
        | (go_at_call 24; exact Calls.ro_same (has_c4 hnW (RoW.ro _)))
        | (go_at_call 38; exact Calls.ro_of (block_step ih hkid (by omega) (RoW.ro _))))))
  all_goals refine wpQuiet_nil ?_
  all_goals (intro w1 hr1; have hc1 := hr1.cell)
  all_goals go_wp2_with fail
  all_goals have f1 : w1.frozen? ⟨gd, 0, none⟩ = false := by simp [World.frozen?, (hr1.below.block _ dz).trans hc'.d]
  all_goals go_region
  all_goals go_wp2_with ((with_reducible refine (HQ.out _ ?hnode).mono ?_); (case hnode => exact Ro.node (W2.ro hr hr1 hgd) hn); rintro e w3 ⟨rfl, hr3⟩)
  all_goals go_ret
  · exact PostC.yes (x := D) E.out hr hr1 hc' dz iz hne' hgd (by rw [hv]; omega) (by unfold pC; rw [E.out, hv]; rfl) hr3
  all_goals first
    | exact PostC.yes (x := D + 1) E.out hr hr1 hc' dz iz hne' hgd (by rw [hv]) (by rw [pC_one E.out hv]; unfold lenI; clear hr hr1 hc' hq0 hn ih c0 c1 c2 c3 c7 hk hkid E hnW hc1 HQ hfi hcq; go_light; first | grind | (simp_all; done)) (Ro.self _)
    | exact PostC.yes (x := 1) E.out hr hr1 hc' dz iz hne' hgd (by rw [hv]; omega) (by rw [pC_one E.out hv]; unfold lenI; clear hr hr1 hc' hq0 hn ih c0 c1 c2 c3 c7 hk hkid E hnW hc1 HQ hfi hcq; go_light; first | grind | (simp_all; done)) (Ro.self _)
theorem clause_c {w0 w : World} {B gd gi : Nat} {fi : FuncId} {q : Node → Bool} {D : Int} {a : Addr} {n : Node} {m : Nat} (ih : StmtIH m) (hn : NodeAt w0 B a n) (hm : n.size ≤ m + 1) (hr : Ro w0 B w)
    (hgd : B ≤ gd) (hgi : B ≤ gi) (hne' : gd ≠ gi) (hD0 : 0 ≤ D) (hD : D ≤ 1048576) (hc' : CellsC gd gi fi D w) (hfi : ∀ args w, (callFunc fi args).run Tryz.prog w = .ok (.enter fi args) w)
    (hq : ∀ W, NodeAt W W.heap.size a n → Calls Tryz.prog fi #[.pointer (some a)] W fun e w' => e = .returned (.bool (q n)) ∧ Ro W W.heap.size w') :
    Calls Tryz.prog 144 #[.pointer (some a), .pointer (some ⟨gd, 0, none⟩), .pointer (some ⟨gi, 0, none⟩)] w (PostC w0 B gd gi fi q D n) := by
  by_cases hv : n.n = 0 ∨ n.n = 1
  · by_cases hb1 : bareB n false false true = true
    · by_cases hlen : n.kids.length = 0
      · exact clause_no2 ih hn hm hr hgd hgi hne' hD0 hD hc' hfi hq hv (.inr ⟨hb1, hlen⟩)
      · by_cases hbl : lastB n.kids = true
        · exact clause_yes ih hn hm hr hgd hgi hne' hD0 hD hc' hfi hq hv hb1 (by omega) hbl
        · exact clause_no3 ih hn hm hr hgd hgi hne' hD0 hD hc' hfi hq hv hb1 (by omega) (by simpa using hbl)
    · exact clause_no2 ih hn hm hr hgd hgi hne' hD0 hD hc' hfi hq hv (.inl (by simpa using hb1))
  · exact clause_no1 ih hn hm hr hgd hgi hne' hD0 hD hc' hfi hq (by rw [bne_iff_ne]; exact fun h => hv (.inl h)) (by rw [bne_iff_ne]; exact fun h => hv (.inr h))
end Go.Proofs.YtjdeomenioagdaaGreatDoor
