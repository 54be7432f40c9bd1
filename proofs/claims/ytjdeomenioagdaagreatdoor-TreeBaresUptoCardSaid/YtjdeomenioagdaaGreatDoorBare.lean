/- Bare, by the program. -/
import Derived.Test.YtjdeomenioagdaaGreatDoorBuilt
import Derived.Deep.RegionLaw
set_option linter.unusedVariables false
set_option linter.unusedSimpArgs false
namespace Go.Proofs.YtjdeomenioagdaaGreatDoor
open Go.RowKit
mutual
def bareN : Node → Node
  | ⟨k, t, n, y, _, _, _, ks⟩ => ⟨k, t, n, if marksB k then .empty else y, 0, 0, 0, baresN ks⟩
def baresN : List Node → List Node
  | [] => []
  | k :: r => bareN k :: baresN r
end
theorem baresN_map (l : List Node) : baresN l = l.map bareN := by
  induction l with
  | nil => rfl
  | cons a r ih => simp [baresN, ih]
theorem bareN_eq (n : Node) : bareN n = ⟨n.kind, n.text, n.n, if marksB n.kind then .empty else n.type, 0, 0, 0, n.kids.map bareN⟩ := by cases n; simp only [bareN, baresN_map]
theorem info_node : ∃ i z, Tryz.prog.info? 25 = some i ∧ i.zero = some z ∧ i.size = 8 ∧ i.bytes = 96 ∧ z.cells.size = 8 := by
  have h : (Tryz.prog.info? 25).map (fun i => (i.zero, i.size, i.bytes)) = some (some (.agg #[.int .i64 0, .string .empty, .int .i64 0, .string .empty, .int .i64 0, .int .i64 0, .int .i64 0, .slice none 0 0]), 8, 96) := by kernel_rfl
  obtain ⟨i, hi, he⟩ := Option.map_eq_some_iff.1 h
  simp only [Prod.mk.injEq] at he
  exact ⟨i, _, hi, he.1, he.2.1, he.2.2, rfl⟩
/-- A node by value is handed back, its rows new. -/
def Gives (n : Node) (w : World) (e : Ending) (w' : World) : Prop := ∃ A c, e = .returned (.agg #[.int .i64 n.kind, .string n.text, .int .i64 n.n, .string n.type, .int .i64 n.slot, .int .i64 n.at_, .int .i64 n.line, .slice A n.kids.length c]) ∧ Below w.heap.size w w' ∧ VOwn w' w.heap.size w'.heap.size A n c
def BareIH (m : Nat) : Prop := ∀ (w0 : World) (B : Nat) (A : Option Addr) (c : Nat) (n : Node) (w : World), ValAt w0 B A n c → n.size ≤ m → Ro w0 B w →
  Calls Tryz.prog 20 #[.agg #[.int .i64 n.kind, .string n.text, .int .i64 n.n, .string n.type, .int .i64 n.slot, .int .i64 n.at_, .int .i64 n.line, .slice A n.kids.length c]] w (Gives (bareN n) w)
/-- Three blocks more. -/
theorem three_new (w : World) (o1 o2 o3 : Obj) : (((w.alloc o1).alloc o2).alloc o3).heap.size = w.heap.size + 3 ∧ (((w.alloc o1).alloc o2).alloc o3).heap[w.heap.size]? = some o1 ∧ (((w.alloc o1).alloc o2).alloc o3).heap[w.heap.size + 1]? = some o2 ∧ (((w.alloc o1).alloc o2).alloc o3).heap[w.heap.size + 2]? = some o3 ∧ Below w.heap.size w (((w.alloc o1).alloc o2).alloc o3) := by
  refine ⟨by simp, ?_, ?_, ?_, (((Below.refl _ _).alloc (Nat.le_refl _) _).alloc (by simp) _).alloc (by simp; omega) _⟩
  · rw [Lib.alloc_old _ _ _ (by simp; omega), Lib.alloc_old _ _ _ (by simp)]
    exact heap_alloc_new w _
  · rw [Lib.alloc_old _ _ _ (by simp)]
    have := heap_alloc_new (w.alloc o1) o2
    simpa using this
  · have := heap_alloc_new ((w.alloc o1).alloc o2) o3
    simpa using this
theorem setCell_in {w : World} {g : Nat} {cs : Array Value} {T : TypeId} (h : w.heap[g]? = some (.cells cs T (0, 0))) (j : Nat) (u : Value) : (w.setCell ⟨g, j, none⟩ u).heap[g]? = some (.cells (cs.setIfInBounds j u) T (0, 0)) := by
  simp [World.setCell, Array.getElem?_modify, h]
/-- out.Kids = append(out.Kids, kid): out in block o, the kid made since W1. -/
theorem row_push {W1 w2 w3 : World} {o L gg cap : Nat} {V : Value} {x : List Vn} {A2 : Option Addr} {k : Node} {c2 : Nat} {cs : Array Value} {T : TypeId} (hL : o < L) (hLz : L ≤ W1.heap.size) (hx : BuiltX W1 L V x) (ho : W1.heap[o]? = some (.cells cs T (0, 0)))
    (hb2 : Below W1.heap.size W1 w2) (hv2 : VOwn w2 W1.heap.size w2.heap.size A2 k c2) (hg : (w2.alloc (.cells (nodeV k A2 c2) 25)).grownBy w3 V.ownBlock)
    (hown : w3.ownsRow L 25 8 (.slice (some ⟨gg, 0, none⟩) (x.length + 1) cap) (x.length + 1) (flatV x ++ cellsV (k, A2, c2))) (hat : V.ownBlock = some gg ∨ gg = w2.heap.size + 1) :
    (w3.setCell ⟨o, 7, none⟩ (.slice (some ⟨gg, 0, none⟩) (x.length + 1) cap)).heap[o]? = some (.cells (cs.setIfInBounds 7 (.slice (some ⟨gg, 0, none⟩) (x.length + 1) cap)) T (0, 0)) ∧
    BuiltX (w3.setCell ⟨o, 7, none⟩ (.slice (some ⟨gg, 0, none⟩) (x.length + 1) cap)) L (.slice (some ⟨gg, 0, none⟩) (x.length + 1) cap) (x ++ [(k, A2, c2)]) ∧
    Below o W1 (w3.setCell ⟨o, 7, none⟩ (.slice (some ⟨gg, 0, none⟩) (x.length + 1) cap)) := by
  have hrow := hx.lt
  have hz2 := hb2.size
  have hz3 := hg.size
  rw [show (w2.alloc (.cells (nodeV k A2 c2) 25)).heap.size = w2.heap.size + 1 from by simp] at hz3
  have hne : ∀ g, g < L → some g ≠ V.ownBlock := fun g hgl e => by have := hrow g e.symm; omega
  have h3 : ∀ g, g < W1.heap.size → some g ≠ V.ownBlock → w3.heap[g]? = W1.heap[g]? := fun g hgz hgn =>
    (hg.block g (by simp; omega) hgn).trans ((Below.heap_alloc _ _ _ (by omega)).trans (hb2.block g hgz))
  refine ⟨setCell_in ((h3 o (by omega) (hne o hL)).trans ho) 7 _, ?_, ?_⟩
  · have hp : BuiltX w3 L (.slice (some ⟨gg, 0, none⟩) (x.length + 1) cap) (x ++ [(k, A2, c2)]) :=
      hx.push (w := w2.alloc (.cells (nodeV k A2 c2) 25)) (H := w2.heap.size + 1) (hv2.frame (fun g _ h => Below.heap_alloc _ _ _ h) (Nat.le_refl _) (Nat.le_refl _)) (Nat.le_refl _) hz2 (by simp) hLz (fun g _ h => (Below.heap_alloc _ _ _ (by omega)).trans (hb2.block g h)) (by simp) hg hown hat
    exact hp.frame (fun g h1 _ => Below.heap_setCell _ _ _ _ (by show g ≠ o; omega)) (by simp [World.setCell])
  · refine ⟨?_, ?_, ?_, by simp [World.setCell]; omega, fun g hgo => ?_⟩
    · exact hg.os.trans hb2.os
    · exact hg.tape.trans hb2.tape
    · exact hg.output.trans hb2.output
    · exact (Below.heap_setCell _ _ _ _ (by show g ≠ o; omega)).trans (h3 g (by omega) (hne g (by omega)))
/-- A whole node is stored. -/
def put8 (w : World) (r : Nat) (v0 v1 v2 v3 v4 v5 v6 v7 : Value) : World := ((((((((w.setCell ⟨r, 0, none⟩ v0).setCell ⟨r, 1, none⟩ v1).setCell ⟨r, 2, none⟩ v2).setCell ⟨r, 3, none⟩ v3).setCell ⟨r, 4, none⟩ v4).setCell ⟨r, 5, none⟩ v5).setCell ⟨r, 6, none⟩ v6).setCell ⟨r, 7, none⟩ v7)
theorem setCell_size (w : World) (a : Addr) (u : Value) : (w.setCell a u).heap.size = w.heap.size := by simp [World.setCell]
theorem setCell_os (w : World) (a : Addr) (u : Value) : (w.setCell a u).os = w.os := rfl
theorem setCell_tape (w : World) (a : Addr) (u : Value) : (w.setCell a u).tape = w.tape := rfl
theorem setCell_output (w : World) (a : Addr) (u : Value) : (w.setCell a u).output = w.output := rfl
theorem put8_facts (w : World) (r : Nat) (v0 v1 v2 v3 v4 v5 v6 v7 : Value) : (put8 w r v0 v1 v2 v3 v4 v5 v6 v7).heap.size = w.heap.size ∧ (∀ g, g ≠ r → (put8 w r v0 v1 v2 v3 v4 v5 v6 v7).heap[g]? = w.heap[g]?) ∧ (put8 w r v0 v1 v2 v3 v4 v5 v6 v7).os = w.os ∧ (put8 w r v0 v1 v2 v3 v4 v5 v6 v7).tape = w.tape ∧ (put8 w r v0 v1 v2 v3 v4 v5 v6 v7).output = w.output := by
  unfold put8
  refine ⟨by simp only [setCell_size], fun g hg => ?_, by simp only [setCell_os], by simp only [setCell_tape], by simp only [setCell_output]⟩
  have e : ∀ (w : World) (j : Nat) (u : Value), (w.setCell ⟨r, j, none⟩ u).heap[g]? = w.heap[g]? := fun w j u => Below.heap_setCell _ _ _ _ hg
  simp only [e]
theorem put8_row {w : World} {r T : Nat} {a0 a1 a2 a3 a4 a5 a6 a7 : Value} (h : w.heap[r]? = some (.cells #[a0, a1, a2, a3, a4, a5, a6, a7] T (0, 0))) (v0 v1 v2 v3 v4 v5 v6 v7 : Value) :
    (put8 w r v0 v1 v2 v3 v4 v5 v6 v7).heap[r]? = some (.cells #[v0, v1, v2, v3, v4, v5, v6, v7] T (0, 0)) := by
  unfold put8
  replace h := setCell_in h 0 v0
  simp only [List.setIfInBounds_toArray, List.set_cons_zero, List.set_cons_succ] at h
  replace h := setCell_in h 1 v1
  simp only [List.setIfInBounds_toArray, List.set_cons_zero, List.set_cons_succ] at h
  replace h := setCell_in h 2 v2
  simp only [List.setIfInBounds_toArray, List.set_cons_zero, List.set_cons_succ] at h
  replace h := setCell_in h 3 v3
  simp only [List.setIfInBounds_toArray, List.set_cons_zero, List.set_cons_succ] at h
  replace h := setCell_in h 4 v4
  simp only [List.setIfInBounds_toArray, List.set_cons_zero, List.set_cons_succ] at h
  replace h := setCell_in h 5 v5
  simp only [List.setIfInBounds_toArray, List.set_cons_zero, List.set_cons_succ] at h
  replace h := setCell_in h 6 v6
  simp only [List.setIfInBounds_toArray, List.set_cons_zero, List.set_cons_succ] at h
  replace h := setCell_in h 7 v7
  simp only [List.setIfInBounds_toArray, List.set_cons_zero, List.set_cons_succ] at h
  exact h
theorem set8 {w : World} {r T : Nat} {a0 a1 a2 a3 a4 a5 a6 a7 : Value} (h : w.heap[r]? = some (.cells #[a0, a1, a2, a3, a4, a5, a6, a7] T (0, 0))) (v0 v1 v2 v3 v4 v5 v6 v7 : Value) :
    ∃ W8, W8 = ((((((((w.setCell ⟨r, 0, none⟩ v0).setCell ⟨r, 1, none⟩ v1).setCell ⟨r, 2, none⟩ v2).setCell ⟨r, 3, none⟩ v3).setCell ⟨r, 4, none⟩ v4).setCell ⟨r, 5, none⟩ v5).setCell ⟨r, 6, none⟩ v6).setCell ⟨r, 7, none⟩ v7) ∧
      W8.heap[r]? = some (.cells #[v0, v1, v2, v3, v4, v5, v6, v7] T (0, 0)) ∧ W8.heap.size = w.heap.size ∧ (∀ g, g ≠ r → W8.heap[g]? = w.heap[g]?) ∧ W8.os = w.os ∧ W8.tape = w.tape ∧ W8.output = w.output :=
  ⟨put8 w r v0 v1 v2 v3 v4 v5 v6 v7, by unfold put8; with_reducible rfl, put8_row h v0 v1 v2 v3 v4 v5 v6 v7, put8_facts w r v0 v1 v2 v3 v4 v5 v6 v7⟩
/-- What stays: all blocks below z but the row's. -/
def Stays (z : Nat) (row : Option Nat) (w w' : World) : Prop := w.heap.size ≤ w'.heap.size ∧ ∀ g, g < z → some g ≠ row → w'.heap[g]? = w.heap[g]?
theorem Stays.refl (z : Nat) (row : Option Nat) (w : World) : Stays z row w w := ⟨Nat.le_refl _, fun _ _ _ => rfl⟩
theorem Stays.drew {z : Nat} {row : Option Nat} {w w' : World} (h : Stays z row w w') : Stays z row w w'.drew := h
theorem Stays.alloc {z : Nat} {row : Option Nat} {w w' : World} (h : Stays z row w w') (hz : z ≤ w.heap.size) (o : Obj) : Stays z row w (w'.alloc o) :=
  ⟨by have := h.1; simp; omega, fun g hg hr => (Below.heap_alloc _ _ _ (by have := h.1; omega)).trans (h.2 g hg hr)⟩
theorem Stays.below {z : Nat} {row : Option Nat} {w w' w'' : World} (h : Stays z row w w') (hz : z ≤ w.heap.size) (hb : Below w'.heap.size w' w'') : Stays z row w w'' :=
  ⟨by have := h.1; have := hb.size; omega, fun g hg hr => (hb.block g (by have := h.1; omega)).trans (h.2 g hg hr)⟩
theorem Stays.grown {z : Nat} {row : Option Nat} {w w' w'' : World} (h : Stays z row w w') (hz : z ≤ w.heap.size) (hb : w'.grownBy w'' row) : Stays z row w w'' :=
  ⟨by have := h.1; have := hb.size; omega, fun g hg hr => (hb.block g (by have := h.1; omega) hr).trans (h.2 g hg hr)⟩
set_option maxHeartbeats 40000000 in
set_option maxRecDepth 100000 in
theorem bare_step {w0 w : World} {B m : Nat} {A : Option Addr} {c : Nat} {n : Node} (ih : BareIH m) (hv : ValAt w0 B A n c) (hm : n.size ≤ m + 1) (hr : Ro w0 B w) :
    Calls Tryz.prog 20 #[.agg #[.int .i64 n.kind, .string n.text, .int .i64 n.n, .string n.type, .int .i64 n.slot, .int .i64 n.at_, .int .i64 n.line, .slice A n.kids.length c]] w (Gives (bareN n) w) := by
  obtain ⟨i0, z0, hi0, hz0, hz1, hz2, hz3⟩ := info_node
  have hk := hv.kids
  have hl := hk.le
  have hl' := hk.le'
  have E : bareN n = ⟨n.kind, n.text, n.n, if marksB n.kind then .empty else n.type, 0, 0, 0, n.kids.map bareN⟩ := bareN_eq n
  rw [E]
  have HNT := hv.ht
  have HTT : (if marksB n.kind then .empty else n.type : ByteArray).size ≤ 1048576 := by
    split
    · simp
    · exact hv.ht'
  have HNI := hv.hi
  have tm : marksB n.kind = true ∨ marksB n.kind = false := by cases marksB n.kind <;> simp
  clear E
  rcases tm with hmk | hmk
  · rw [hmk, if_pos rfl]
    rw [hmk, if_pos rfl] at HTT
    go_enter Tryz.func20, Tryz.ntmps20
    go_wp2_with (go_at_call 33; (with_reducible refine (marks_c _ _).mono ?_); rintro e w' ⟨rfl, rfl⟩)
    obtain ⟨hWz, hWg, hWr, hWo, hWb⟩ := three_new w (.cells #[.int .i64 n.kind, .string n.text, .int .i64 n.n, .string n.type, .int .i64 n.slot, .int .i64 n.at_, .int .i64 n.line, .slice A n.kids.length c] 25) (.cells #[.int .i64 0, .string ⟨#[]⟩, .int .i64 0, .string ⟨#[]⟩, .int .i64 0, .int .i64 0, .int .i64 0, .slice none 0 0] 25) (.cells #[.int .i64 n.kind, .string n.text, .int .i64 n.n, .string ⟨#[]⟩, .int .i64 0, .int .i64 0, .int .i64 0, .slice none 0 0] 25)
    generalize (((w.alloc (.cells #[.int .i64 n.kind, .string n.text, .int .i64 n.n, .string n.type, .int .i64 n.slot, .int .i64 n.at_, .int .i64 n.line, .slice A n.kids.length c] 25)).alloc (.cells #[.int .i64 0, .string ⟨#[]⟩, .int .i64 0, .string ⟨#[]⟩, .int .i64 0, .int .i64 0, .int .i64 0, .slice none 0 0] 25)).alloc (.cells #[.int .i64 n.kind, .string n.text, .int .i64 n.n, .string ⟨#[]⟩, .int .i64 0, .int .i64 0, .int .i64 0, .slice none 0 0] 25)) = W at hWz hWg hWr hWo hWb ⊢
    have hrW : Ro w0 B W := hr.below_ hWb
    have hBz := hr.size
    have HWB := Lib.hid hWb
    clear hr hWg hWb
    generalize hzo : w.heap.size + 1 + 1 = o
    generalize hzr : w.heap.size + 1 = r at hWr ⊢
    have hWo : W.heap[o]? = some (.cells #[.int .i64 n.kind, .string n.text, .int .i64 n.n, .string ⟨#[]⟩, .int .i64 0, .int .i64 0, .int .i64 0, .slice none 0 0] 25 (0, 0)) := by rw [← hzo]; exact hWo
    have hWz : W.heap.size = o + 1 := by omega
    have hBo : B ≤ o := by omega
    have hro : r < o := by omega
    have HZ : Hid (w.heap.size < r) := by show _ < _; omega
    have HNK := Lib.hid hmk
    clear hBz hzo hzr hmk
    go_loopw [5, 22] (fun _ u wr => ∃ (i : Nat) (V : Value) (x : List Vn), i ≤ n.kids.length ∧ u = .int .i64 i ∧ Hid (x.map (·.1) = (n.kids.take i).map bareN) ∧ Hid (wr.heap[o]? = some (.cells #[.int .i64 n.kind, .string n.text, .int .i64 n.n, .string ⟨#[]⟩, .int .i64 0, .int .i64 0, .int .i64 0, V] 25 (0, 0))) ∧ BuiltX wr (o + 1) V x ∧ Below o W wr) (fun _ u _ => (n.kids.length - (intOf u).toNat : Nat))
    case atStart => exact ⟨0, .slice none 0 0, [], by omega, rfl, rfl, hWo, BuiltX.none_ _ _, Below.refl _ _⟩
    case round =>
      obtain ⟨i, V, x, hil, rfl, HX, HO, hbx, hbw⟩ := hrel
      have hrw : Ro w0 B wr := ⟨hrW.below.trans (hbw.mono hBo), by have := hbw.size; have := hrW.size; omega⟩
      have hc := hrw.cell
      have hwz := hbw.size
      by_cases hlt : i < n.kids.length
      · obtain ⟨ad, rfl⟩ := hk.some_ (by omega)
        have hkid := kid_at hk hlt
        have hks := n.size_kid (List.getElem_mem hlt)
        have HN : Hid ((n.kids.take (i + 1)).map bareN = (n.kids.take i).map bareN ++ [bareN n.kids[i]]) := by show _ = _; rw [List.take_succ_eq_append_getElem hlt, List.map_append]; rfl
        generalize n.kids[i] = kk at hkid hks HN
        obtain ⟨Ak, ck, hvk, hbk, k0, k1, k2, k3, k4, k5, k6, k7⟩ := hkid.val
        have hzk := hrw.lt hbk
        go_wp2_with fail
        obtain ⟨W1, hW1⟩ : ∃ W1, W1 = wr.alloc (.cells (nodeV kk Ak ck) 25) := ⟨_, rfl⟩
        have hW' : wr.alloc (.cells (nodeV kk Ak ck) 25) = W1 := hW1.symm
        unfold nodeV at hW'
        rw [hW']
        clear hW'
        have hr1 : Ro w0 B W1 := hW1 ▸ hrw.alloc _
        have gall : ∀ j, W1.cell? ⟨wr.heap.size, j, none⟩ = (nodeV kk Ak ck)[j]? := fun j => by rw [hW1]; exact cell_new _ _ _ _
        have gz : W1.heap.size = wr.heap.size + 1 := by rw [hW1]; simp
        have hWs : W1.os = wr.os ∧ W1.tape = wr.tape ∧ W1.output = wr.output := by rw [hW1]; exact ⟨rfl, rfl, rfl⟩
        have gold : ∀ g, g < wr.heap.size → W1.heap[g]? = wr.heap[g]? := fun g hg => by rw [hW1]; exact Below.heap_alloc _ _ _ hg
        clear hW1
        have oh : W1.heap[o]? = some (.cells #[.int .i64 n.kind, .string n.text, .int .i64 n.n, .string ⟨#[]⟩, .int .i64 0, .int .i64 0, .int .i64 0, V] 25 (0, 0)) := (gold o (by omega)).trans HO.out
        have hbx1 : BuiltX W1 (o + 1) V x := hbx.frame (fun g _ h => gold g h) (by omega)
        have hrow : ∀ g, V.ownBlock = some g → o + 1 ≤ g ∧ g < wr.heap.size := hbx.lt
        have hb1 : Below o W W1 := hbw.trans ⟨hWs.1, hWs.2.1, hWs.2.2, by omega, fun g hg => gold g (by omega)⟩
        generalize wr.heap.size = q at gall gz hrow hwz ⊢
        have g0 : W1.cell? ⟨q, 0, none⟩ = some (.int .i64 kk.kind) := gall 0
        have g1 : W1.cell? ⟨q, 1, none⟩ = some (.string kk.text) := gall 1
        have g2 : W1.cell? ⟨q, 2, none⟩ = some (.int .i64 kk.n) := gall 2
        have g3 : W1.cell? ⟨q, 3, none⟩ = some (.string kk.type) := gall 3
        have g4 : W1.cell? ⟨q, 4, none⟩ = some (.int .i64 kk.slot) := gall 4
        have g5 : W1.cell? ⟨q, 5, none⟩ = some (.int .i64 kk.at_) := gall 5
        have g6 : W1.cell? ⟨q, 6, none⟩ = some (.int .i64 kk.line) := gall 6
        have g7 : W1.cell? ⟨q, 7, none⟩ = some (.slice Ak kk.kids.length ck) := gall 7
        have of7 : W1.frozen? ⟨o, 7, none⟩ = false := Lib.frozen_of_heap oh 7
        have o7 : W1.cell? ⟨o, 7, none⟩ = some V := Lib.cell_of_heap oh 7
        clear gall
        have ag : V.ownBlock ≠ some o := fun h => by have := hrow o h; omega
        have aq : V.ownBlock ≠ some q := fun h => by have := hrow q h; omega
        have HS : Hid (∀ w', Stays W1.heap.size V.ownBlock W1 w' → w'.cell? ⟨o, 7, none⟩ = some V ∧ w'.frozen? ⟨o, 7, none⟩ = false ∧ w'.cell? ⟨q, 0, none⟩ = some (.int .i64 kk.kind) ∧ w'.cell? ⟨q, 1, none⟩ = some (.string kk.text) ∧ w'.cell? ⟨q, 2, none⟩ = some (.int .i64 kk.n) ∧ w'.cell? ⟨q, 3, none⟩ = some (.string kk.type) ∧
            w'.cell? ⟨q, 4, none⟩ = some (.int .i64 kk.slot) ∧ w'.cell? ⟨q, 5, none⟩ = some (.int .i64 kk.at_) ∧ w'.cell? ⟨q, 6, none⟩ = some (.int .i64 kk.line) ∧ w'.cell? ⟨q, 7, none⟩ = some (.slice Ak kk.kids.length ck)) := fun w' h => by
          have ho : ∀ j, w'.cell? ⟨o, j, none⟩ = W1.cell? ⟨o, j, none⟩ := fun j => World.cell?_of_block (a := ⟨o, j, none⟩) (h.2 o (by omega) (Ne.symm ag))
          have hq : ∀ j, w'.cell? ⟨q, j, none⟩ = W1.cell? ⟨q, j, none⟩ := fun j => World.cell?_of_block (a := ⟨q, j, none⟩) (h.2 q (by omega) (Ne.symm aq))
          exact ⟨(ho 7).trans o7, (World.frozen?_of_block (a := ⟨o, 7, none⟩) (h.2 o (by omega) (Ne.symm ag))).trans of7, (hq 0).trans g0, (hq 1).trans g1, (hq 2).trans g2, (hq 3).trans g3, (hq 4).trans g4, (hq 5).trans g5, (hq 6).trans g6, (hq 7).trans g7⟩
        have HB : Hid (∀ w', Ro W1 W1.heap.size w' → Calls Tryz.prog 20 #[.agg #[.int .i64 kk.kind, .string kk.text, .int .i64 kk.n, .string kk.type, .int .i64 kk.slot, .int .i64 kk.at_, .int .i64 kk.line, .slice Ak kk.kids.length ck]] w' (Gives (bareN kk) w')) := fun w' h => ih _ _ _ _ _ _ hvk (by omega) (hr1.trans_ h)
        have st0 := (Stays.refl W1.heap.size V.ownBlock W1).drew
        have hown0 := hbx1.own
        have hz8 : x.length ≤ 1048576 := by
          have := congrArg List.length HX.out
          simp only [List.length_map, List.length_take] at this
          omega
        have hz63 : x.length + 1 ≤ maxLen := by unfold maxLen; omega
        go_region_law (first
            | (refine step_append_lies _ (by rfl) _ _ _ (by rfl) (o + 1) 25 i0 z0 8 96 Tryz.underlying23 hi0 hz0 hz1 hz2 hz3 (by omega) V x.length (flatV x) (by rfl) ((hown2.alloc _)) ⟨w2.heap.size, 0, none⟩ 1 1 (cellsV (bareN kk, A2, c2)) (by rfl) (by rfl) (World.news_of_block (cs := nodeV (bareN kk) A2 c2) (t := 25) (fr := (0, 0)) (heap_alloc_new w2 _)) (by simp [cellsV, nodeV, Value.oneCell']) (by omega) hz63 (by omega) (by simp; omega) (w2.heap.size + 1) (by simp) ?_; intro gg cap w3 hown3 hgrow hat hlt3; have st3 := (st2.alloc (Nat.le_refl _) (.cells (nodeV (bareN kk) A2 c2) 25)).grown (Nat.le_refl _) hgrow; obtain ⟨z0, zf, _⟩ := HS.out _ st3)
            | (go_simp; go_at_call 20; (with_reducible refine (HB.out _ ?hr).mono ?_); (case hr => first | exact Ro.self W1 | exact (Ro.self W1).drew); rintro e w2 ⟨A2, c2, rfl, hb2, hv2⟩; have st2 := st0.below (Nat.le_refl _) hb2; obtain ⟨y0, yf, _⟩ := HS.out _ st2; have yz : o < w2.heap.size := (by have := st2.1; omega); have hown2 : w2.ownsRow (o + 1) 25 8 V x.length (flatV x) := hown0.kept (row := none) ⟨hb2.os, hb2.tape, hb2.output, hb2.size, fun k hk _ => hb2.block k hk⟩ (Classical.em _)))
        all_goals go_wp2_with fail
        all_goals
          obtain ⟨p1, p2, p3⟩ := row_push (o := o) (by omega) (by omega) hbx1 oh ⟨hb2.os, hb2.tape, hb2.output, hb2.size, hb2.block⟩ hv2 hgrow hown3 hat
          exact ⟨⟨i + 1, _, x ++ [(bareN kk, A2, c2)], by omega, by go_num, by (show _ = _; rw [HN.out, ← HX.out]; simp), p1, p2, hb1.trans p3⟩, by simp [intOf]; omega⟩
      · have hi : i = n.kids.length := by omega
        subst hi
        have HX : Hid (x.map (·.1) = n.kids.map bareN) := by have := HX.out; rw [List.take_length] at this; exact this
        obtain ⟨Av, cv, rfl, hown⟩ := Built.kids ⟨x, hbx, HX.out⟩ (by rw [List.length_map]; exact hl')
        have oh := HO.out
        have o0 : wr.cell? ⟨o, 0, none⟩ = some (.int .i64 n.kind) := Lib.cell_of_heap oh 0
        have o1 : wr.cell? ⟨o, 1, none⟩ = some (.string n.text) := Lib.cell_of_heap oh 1
        have o2 : wr.cell? ⟨o, 2, none⟩ = some (.int .i64 n.n) := Lib.cell_of_heap oh 2
        have o3 : wr.cell? ⟨o, 3, none⟩ = some (.string ⟨#[]⟩) := Lib.cell_of_heap oh 3
        have o4 : wr.cell? ⟨o, 4, none⟩ = some (.int .i64 0) := Lib.cell_of_heap oh 4
        have o5 : wr.cell? ⟨o, 5, none⟩ = some (.int .i64 0) := Lib.cell_of_heap oh 5
        have o6 : wr.cell? ⟨o, 6, none⟩ = some (.int .i64 0) := Lib.cell_of_heap oh 6
        have o7 : wr.cell? ⟨o, 7, none⟩ = some (.slice Av (n.kids.map bareN).length cv) := Lib.cell_of_heap oh 7
        have hml : (n.kids.map bareN).length = n.kids.length := List.length_map _
        rw [hml] at o7
        have rh := (hbw.block r (by omega)).trans hWr
        clear oh hml
        have r0 : wr.cell? ⟨r, 0, none⟩ = some (.int .i64 0) := Lib.cell_of_heap rh 0
        have rf0 : wr.frozen? ⟨r, 0, none⟩ = false := Lib.frozen_of_heap rh 0
        have r1 : wr.cell? ⟨r, 1, none⟩ = some (.string ⟨#[]⟩) := Lib.cell_of_heap rh 1
        have rf1 : wr.frozen? ⟨r, 1, none⟩ = false := Lib.frozen_of_heap rh 1
        have r2 : wr.cell? ⟨r, 2, none⟩ = some (.int .i64 0) := Lib.cell_of_heap rh 2
        have rf2 : wr.frozen? ⟨r, 2, none⟩ = false := Lib.frozen_of_heap rh 2
        have r3 : wr.cell? ⟨r, 3, none⟩ = some (.string ⟨#[]⟩) := Lib.cell_of_heap rh 3
        have rf3 : wr.frozen? ⟨r, 3, none⟩ = false := Lib.frozen_of_heap rh 3
        have r4 : wr.cell? ⟨r, 4, none⟩ = some (.int .i64 0) := Lib.cell_of_heap rh 4
        have rf4 : wr.frozen? ⟨r, 4, none⟩ = false := Lib.frozen_of_heap rh 4
        have r5 : wr.cell? ⟨r, 5, none⟩ = some (.int .i64 0) := Lib.cell_of_heap rh 5
        have rf5 : wr.frozen? ⟨r, 5, none⟩ = false := Lib.frozen_of_heap rh 5
        have r6 : wr.cell? ⟨r, 6, none⟩ = some (.int .i64 0) := Lib.cell_of_heap rh 6
        have rf6 : wr.frozen? ⟨r, 6, none⟩ = false := Lib.frozen_of_heap rh 6
        have r7 : wr.cell? ⟨r, 7, none⟩ = some (.slice none 0 0) := Lib.cell_of_heap rh 7
        have rf7 : wr.frozen? ⟨r, 7, none⟩ = false := Lib.frozen_of_heap rh 7
        go_wp2_with fail
        obtain ⟨W8, hW8, h8, h8z, h8o, h8a, h8b, h8c⟩ := set8 rh (.int .i64 n.kind) (.string n.text) (.int .i64 n.n) (.string ⟨#[]⟩) (.int .i64 0) (.int .i64 0) (.int .i64 0) (.slice Av n.kids.length cv)
        rw [← hW8]
        clear hW8 r0 rf0 r1 rf1 r2 rf2 r3 rf3 r4 rf4 r5 rf5 r6 rf6 r7 rf7
        refine bodyPost_ret (v := .agg #[.int .i64 n.kind, .string n.text, .int .i64 n.n, .string ⟨#[]⟩, .int .i64 0, .int .i64 0, .int .i64 0, .slice Av n.kids.length cv]) ?_ rfl ?_
        · have q0 : W8.cell? ⟨r, 0, none⟩ = some (.int .i64 n.kind) := Lib.cell_of_heap h8 0
          have q1 : W8.cell? ⟨r, 1, none⟩ = some (.string n.text) := Lib.cell_of_heap h8 1
          have q2 : W8.cell? ⟨r, 2, none⟩ = some (.int .i64 n.n) := Lib.cell_of_heap h8 2
          have q3 : W8.cell? ⟨r, 3, none⟩ = some (.string ⟨#[]⟩) := Lib.cell_of_heap h8 3
          have q4 : W8.cell? ⟨r, 4, none⟩ = some (.int .i64 0) := Lib.cell_of_heap h8 4
          have q5 : W8.cell? ⟨r, 5, none⟩ = some (.int .i64 0) := Lib.cell_of_heap h8 5
          have q6 : W8.cell? ⟨r, 6, none⟩ = some (.int .i64 0) := Lib.cell_of_heap h8 6
          have q7 : W8.cell? ⟨r, 7, none⟩ = some (.slice Av n.kids.length cv) := Lib.cell_of_heap h8 7
          simp [results, Tryz.results20, go_sem, q0, q1, q2, q3, q4, q5, q6, q7]
        · have hb8 : Below r wr W8 := ⟨h8a, h8b, h8c, by omega, fun g hg => h8o g (by omega)⟩
          refine ⟨Av, cv, by first | (simp; done) | (simp; rfl), (HWB.out.trans (hbw.mono (by have := HZ.out; omega))).trans (hb8.mono (by have := HZ.out; omega)), ⟨?_, HNT, HTT, HNI⟩⟩
          exact hown.frame (fun g h1 _ => h8o g (by omega)) (by have := HZ.out; omega) (by omega)

  · rw [hmk, if_neg (by simp)]
    rw [hmk, if_neg (by simp)] at HTT
    go_enter Tryz.func20, Tryz.ntmps20
    go_wp2_with (go_at_call 33; (with_reducible refine (marks_c _ _).mono ?_); rintro e w' ⟨rfl, rfl⟩)
    obtain ⟨hWz, hWg, hWr, hWo, hWb⟩ := three_new w (.cells #[.int .i64 n.kind, .string n.text, .int .i64 n.n, .string n.type, .int .i64 n.slot, .int .i64 n.at_, .int .i64 n.line, .slice A n.kids.length c] 25) (.cells #[.int .i64 0, .string ⟨#[]⟩, .int .i64 0, .string ⟨#[]⟩, .int .i64 0, .int .i64 0, .int .i64 0, .slice none 0 0] 25) (.cells #[.int .i64 n.kind, .string n.text, .int .i64 n.n, .string n.type, .int .i64 0, .int .i64 0, .int .i64 0, .slice none 0 0] 25)
    generalize (((w.alloc (.cells #[.int .i64 n.kind, .string n.text, .int .i64 n.n, .string n.type, .int .i64 n.slot, .int .i64 n.at_, .int .i64 n.line, .slice A n.kids.length c] 25)).alloc (.cells #[.int .i64 0, .string ⟨#[]⟩, .int .i64 0, .string ⟨#[]⟩, .int .i64 0, .int .i64 0, .int .i64 0, .slice none 0 0] 25)).alloc (.cells #[.int .i64 n.kind, .string n.text, .int .i64 n.n, .string n.type, .int .i64 0, .int .i64 0, .int .i64 0, .slice none 0 0] 25)) = W at hWz hWg hWr hWo hWb ⊢
    have hrW : Ro w0 B W := hr.below_ hWb
    have hBz := hr.size
    have HWB := Lib.hid hWb
    clear hr hWg hWb
    generalize hzo : w.heap.size + 1 + 1 = o
    generalize hzr : w.heap.size + 1 = r at hWr ⊢
    have hWo : W.heap[o]? = some (.cells #[.int .i64 n.kind, .string n.text, .int .i64 n.n, .string n.type, .int .i64 0, .int .i64 0, .int .i64 0, .slice none 0 0] 25 (0, 0)) := by rw [← hzo]; exact hWo
    have hWz : W.heap.size = o + 1 := by omega
    have hBo : B ≤ o := by omega
    have hro : r < o := by omega
    have HZ : Hid (w.heap.size < r) := by show _ < _; omega
    have HNK := Lib.hid hmk
    clear hBz hzo hzr hmk
    go_loopw [5, 22] (fun _ u wr => ∃ (i : Nat) (V : Value) (x : List Vn), i ≤ n.kids.length ∧ u = .int .i64 i ∧ Hid (x.map (·.1) = (n.kids.take i).map bareN) ∧ Hid (wr.heap[o]? = some (.cells #[.int .i64 n.kind, .string n.text, .int .i64 n.n, .string n.type, .int .i64 0, .int .i64 0, .int .i64 0, V] 25 (0, 0))) ∧ BuiltX wr (o + 1) V x ∧ Below o W wr) (fun _ u _ => (n.kids.length - (intOf u).toNat : Nat))
    case atStart => exact ⟨0, .slice none 0 0, [], by omega, rfl, rfl, hWo, BuiltX.none_ _ _, Below.refl _ _⟩
    case round =>
      obtain ⟨i, V, x, hil, rfl, HX, HO, hbx, hbw⟩ := hrel
      have hrw : Ro w0 B wr := ⟨hrW.below.trans (hbw.mono hBo), by have := hbw.size; have := hrW.size; omega⟩
      have hc := hrw.cell
      have hwz := hbw.size
      by_cases hlt : i < n.kids.length
      · obtain ⟨ad, rfl⟩ := hk.some_ (by omega)
        have hkid := kid_at hk hlt
        have hks := n.size_kid (List.getElem_mem hlt)
        have HN : Hid ((n.kids.take (i + 1)).map bareN = (n.kids.take i).map bareN ++ [bareN n.kids[i]]) := by show _ = _; rw [List.take_succ_eq_append_getElem hlt, List.map_append]; rfl
        generalize n.kids[i] = kk at hkid hks HN
        obtain ⟨Ak, ck, hvk, hbk, k0, k1, k2, k3, k4, k5, k6, k7⟩ := hkid.val
        have hzk := hrw.lt hbk
        go_wp2_with fail
        obtain ⟨W1, hW1⟩ : ∃ W1, W1 = wr.alloc (.cells (nodeV kk Ak ck) 25) := ⟨_, rfl⟩
        have hW' : wr.alloc (.cells (nodeV kk Ak ck) 25) = W1 := hW1.symm
        unfold nodeV at hW'
        rw [hW']
        clear hW'
        have hr1 : Ro w0 B W1 := hW1 ▸ hrw.alloc _
        have gall : ∀ j, W1.cell? ⟨wr.heap.size, j, none⟩ = (nodeV kk Ak ck)[j]? := fun j => by rw [hW1]; exact cell_new _ _ _ _
        have gz : W1.heap.size = wr.heap.size + 1 := by rw [hW1]; simp
        have hWs : W1.os = wr.os ∧ W1.tape = wr.tape ∧ W1.output = wr.output := by rw [hW1]; exact ⟨rfl, rfl, rfl⟩
        have gold : ∀ g, g < wr.heap.size → W1.heap[g]? = wr.heap[g]? := fun g hg => by rw [hW1]; exact Below.heap_alloc _ _ _ hg
        clear hW1
        have oh : W1.heap[o]? = some (.cells #[.int .i64 n.kind, .string n.text, .int .i64 n.n, .string n.type, .int .i64 0, .int .i64 0, .int .i64 0, V] 25 (0, 0)) := (gold o (by omega)).trans HO.out
        have hbx1 : BuiltX W1 (o + 1) V x := hbx.frame (fun g _ h => gold g h) (by omega)
        have hrow : ∀ g, V.ownBlock = some g → o + 1 ≤ g ∧ g < wr.heap.size := hbx.lt
        have hb1 : Below o W W1 := hbw.trans ⟨hWs.1, hWs.2.1, hWs.2.2, by omega, fun g hg => gold g (by omega)⟩
        generalize wr.heap.size = q at gall gz hrow hwz ⊢
        have g0 : W1.cell? ⟨q, 0, none⟩ = some (.int .i64 kk.kind) := gall 0
        have g1 : W1.cell? ⟨q, 1, none⟩ = some (.string kk.text) := gall 1
        have g2 : W1.cell? ⟨q, 2, none⟩ = some (.int .i64 kk.n) := gall 2
        have g3 : W1.cell? ⟨q, 3, none⟩ = some (.string kk.type) := gall 3
        have g4 : W1.cell? ⟨q, 4, none⟩ = some (.int .i64 kk.slot) := gall 4
        have g5 : W1.cell? ⟨q, 5, none⟩ = some (.int .i64 kk.at_) := gall 5
        have g6 : W1.cell? ⟨q, 6, none⟩ = some (.int .i64 kk.line) := gall 6
        have g7 : W1.cell? ⟨q, 7, none⟩ = some (.slice Ak kk.kids.length ck) := gall 7
        have of7 : W1.frozen? ⟨o, 7, none⟩ = false := Lib.frozen_of_heap oh 7
        have o7 : W1.cell? ⟨o, 7, none⟩ = some V := Lib.cell_of_heap oh 7
        clear gall
        have ag : V.ownBlock ≠ some o := fun h => by have := hrow o h; omega
        have aq : V.ownBlock ≠ some q := fun h => by have := hrow q h; omega
        have HS : Hid (∀ w', Stays W1.heap.size V.ownBlock W1 w' → w'.cell? ⟨o, 7, none⟩ = some V ∧ w'.frozen? ⟨o, 7, none⟩ = false ∧ w'.cell? ⟨q, 0, none⟩ = some (.int .i64 kk.kind) ∧ w'.cell? ⟨q, 1, none⟩ = some (.string kk.text) ∧ w'.cell? ⟨q, 2, none⟩ = some (.int .i64 kk.n) ∧ w'.cell? ⟨q, 3, none⟩ = some (.string kk.type) ∧
            w'.cell? ⟨q, 4, none⟩ = some (.int .i64 kk.slot) ∧ w'.cell? ⟨q, 5, none⟩ = some (.int .i64 kk.at_) ∧ w'.cell? ⟨q, 6, none⟩ = some (.int .i64 kk.line) ∧ w'.cell? ⟨q, 7, none⟩ = some (.slice Ak kk.kids.length ck)) := fun w' h => by
          have ho : ∀ j, w'.cell? ⟨o, j, none⟩ = W1.cell? ⟨o, j, none⟩ := fun j => World.cell?_of_block (a := ⟨o, j, none⟩) (h.2 o (by omega) (Ne.symm ag))
          have hq : ∀ j, w'.cell? ⟨q, j, none⟩ = W1.cell? ⟨q, j, none⟩ := fun j => World.cell?_of_block (a := ⟨q, j, none⟩) (h.2 q (by omega) (Ne.symm aq))
          exact ⟨(ho 7).trans o7, (World.frozen?_of_block (a := ⟨o, 7, none⟩) (h.2 o (by omega) (Ne.symm ag))).trans of7, (hq 0).trans g0, (hq 1).trans g1, (hq 2).trans g2, (hq 3).trans g3, (hq 4).trans g4, (hq 5).trans g5, (hq 6).trans g6, (hq 7).trans g7⟩
        have HB : Hid (∀ w', Ro W1 W1.heap.size w' → Calls Tryz.prog 20 #[.agg #[.int .i64 kk.kind, .string kk.text, .int .i64 kk.n, .string kk.type, .int .i64 kk.slot, .int .i64 kk.at_, .int .i64 kk.line, .slice Ak kk.kids.length ck]] w' (Gives (bareN kk) w')) := fun w' h => ih _ _ _ _ _ _ hvk (by omega) (hr1.trans_ h)
        have st0 := (Stays.refl W1.heap.size V.ownBlock W1).drew
        have hown0 := hbx1.own
        have hz8 : x.length ≤ 1048576 := by
          have := congrArg List.length HX.out
          simp only [List.length_map, List.length_take] at this
          omega
        have hz63 : x.length + 1 ≤ maxLen := by unfold maxLen; omega
        go_region_law (first
            | (refine step_append_lies _ (by rfl) _ _ _ (by rfl) (o + 1) 25 i0 z0 8 96 Tryz.underlying23 hi0 hz0 hz1 hz2 hz3 (by omega) V x.length (flatV x) (by rfl) ((hown2.alloc _)) ⟨w2.heap.size, 0, none⟩ 1 1 (cellsV (bareN kk, A2, c2)) (by rfl) (by rfl) (World.news_of_block (cs := nodeV (bareN kk) A2 c2) (t := 25) (fr := (0, 0)) (heap_alloc_new w2 _)) (by simp [cellsV, nodeV, Value.oneCell']) (by omega) hz63 (by omega) (by simp; omega) (w2.heap.size + 1) (by simp) ?_; intro gg cap w3 hown3 hgrow hat hlt3; have st3 := (st2.alloc (Nat.le_refl _) (.cells (nodeV (bareN kk) A2 c2) 25)).grown (Nat.le_refl _) hgrow; obtain ⟨z0, zf, _⟩ := HS.out _ st3)
            | (go_simp; go_at_call 20; (with_reducible refine (HB.out _ ?hr).mono ?_); (case hr => first | exact Ro.self W1 | exact (Ro.self W1).drew); rintro e w2 ⟨A2, c2, rfl, hb2, hv2⟩; have st2 := st0.below (Nat.le_refl _) hb2; obtain ⟨y0, yf, _⟩ := HS.out _ st2; have yz : o < w2.heap.size := (by have := st2.1; omega); have hown2 : w2.ownsRow (o + 1) 25 8 V x.length (flatV x) := hown0.kept (row := none) ⟨hb2.os, hb2.tape, hb2.output, hb2.size, fun k hk _ => hb2.block k hk⟩ (Classical.em _)))
        all_goals go_wp2_with fail
        all_goals
          obtain ⟨p1, p2, p3⟩ := row_push (o := o) (by omega) (by omega) hbx1 oh ⟨hb2.os, hb2.tape, hb2.output, hb2.size, hb2.block⟩ hv2 hgrow hown3 hat
          exact ⟨⟨i + 1, _, x ++ [(bareN kk, A2, c2)], by omega, by go_num, by (show _ = _; rw [HN.out, ← HX.out]; simp), p1, p2, hb1.trans p3⟩, by simp [intOf]; omega⟩
      · have hi : i = n.kids.length := by omega
        subst hi
        have HX : Hid (x.map (·.1) = n.kids.map bareN) := by have := HX.out; rw [List.take_length] at this; exact this
        obtain ⟨Av, cv, rfl, hown⟩ := Built.kids ⟨x, hbx, HX.out⟩ (by rw [List.length_map]; exact hl')
        have oh := HO.out
        have o0 : wr.cell? ⟨o, 0, none⟩ = some (.int .i64 n.kind) := Lib.cell_of_heap oh 0
        have o1 : wr.cell? ⟨o, 1, none⟩ = some (.string n.text) := Lib.cell_of_heap oh 1
        have o2 : wr.cell? ⟨o, 2, none⟩ = some (.int .i64 n.n) := Lib.cell_of_heap oh 2
        have o3 : wr.cell? ⟨o, 3, none⟩ = some (.string n.type) := Lib.cell_of_heap oh 3
        have o4 : wr.cell? ⟨o, 4, none⟩ = some (.int .i64 0) := Lib.cell_of_heap oh 4
        have o5 : wr.cell? ⟨o, 5, none⟩ = some (.int .i64 0) := Lib.cell_of_heap oh 5
        have o6 : wr.cell? ⟨o, 6, none⟩ = some (.int .i64 0) := Lib.cell_of_heap oh 6
        have o7 : wr.cell? ⟨o, 7, none⟩ = some (.slice Av (n.kids.map bareN).length cv) := Lib.cell_of_heap oh 7
        have hml : (n.kids.map bareN).length = n.kids.length := List.length_map _
        rw [hml] at o7
        have rh := (hbw.block r (by omega)).trans hWr
        clear oh hml
        have r0 : wr.cell? ⟨r, 0, none⟩ = some (.int .i64 0) := Lib.cell_of_heap rh 0
        have rf0 : wr.frozen? ⟨r, 0, none⟩ = false := Lib.frozen_of_heap rh 0
        have r1 : wr.cell? ⟨r, 1, none⟩ = some (.string ⟨#[]⟩) := Lib.cell_of_heap rh 1
        have rf1 : wr.frozen? ⟨r, 1, none⟩ = false := Lib.frozen_of_heap rh 1
        have r2 : wr.cell? ⟨r, 2, none⟩ = some (.int .i64 0) := Lib.cell_of_heap rh 2
        have rf2 : wr.frozen? ⟨r, 2, none⟩ = false := Lib.frozen_of_heap rh 2
        have r3 : wr.cell? ⟨r, 3, none⟩ = some (.string ⟨#[]⟩) := Lib.cell_of_heap rh 3
        have rf3 : wr.frozen? ⟨r, 3, none⟩ = false := Lib.frozen_of_heap rh 3
        have r4 : wr.cell? ⟨r, 4, none⟩ = some (.int .i64 0) := Lib.cell_of_heap rh 4
        have rf4 : wr.frozen? ⟨r, 4, none⟩ = false := Lib.frozen_of_heap rh 4
        have r5 : wr.cell? ⟨r, 5, none⟩ = some (.int .i64 0) := Lib.cell_of_heap rh 5
        have rf5 : wr.frozen? ⟨r, 5, none⟩ = false := Lib.frozen_of_heap rh 5
        have r6 : wr.cell? ⟨r, 6, none⟩ = some (.int .i64 0) := Lib.cell_of_heap rh 6
        have rf6 : wr.frozen? ⟨r, 6, none⟩ = false := Lib.frozen_of_heap rh 6
        have r7 : wr.cell? ⟨r, 7, none⟩ = some (.slice none 0 0) := Lib.cell_of_heap rh 7
        have rf7 : wr.frozen? ⟨r, 7, none⟩ = false := Lib.frozen_of_heap rh 7
        go_wp2_with fail
        obtain ⟨W8, hW8, h8, h8z, h8o, h8a, h8b, h8c⟩ := set8 rh (.int .i64 n.kind) (.string n.text) (.int .i64 n.n) (.string n.type) (.int .i64 0) (.int .i64 0) (.int .i64 0) (.slice Av n.kids.length cv)
        rw [← hW8]
        clear hW8 r0 rf0 r1 rf1 r2 rf2 r3 rf3 r4 rf4 r5 rf5 r6 rf6 r7 rf7
        refine bodyPost_ret (v := .agg #[.int .i64 n.kind, .string n.text, .int .i64 n.n, .string n.type, .int .i64 0, .int .i64 0, .int .i64 0, .slice Av n.kids.length cv]) ?_ rfl ?_
        · have q0 : W8.cell? ⟨r, 0, none⟩ = some (.int .i64 n.kind) := Lib.cell_of_heap h8 0
          have q1 : W8.cell? ⟨r, 1, none⟩ = some (.string n.text) := Lib.cell_of_heap h8 1
          have q2 : W8.cell? ⟨r, 2, none⟩ = some (.int .i64 n.n) := Lib.cell_of_heap h8 2
          have q3 : W8.cell? ⟨r, 3, none⟩ = some (.string n.type) := Lib.cell_of_heap h8 3
          have q4 : W8.cell? ⟨r, 4, none⟩ = some (.int .i64 0) := Lib.cell_of_heap h8 4
          have q5 : W8.cell? ⟨r, 5, none⟩ = some (.int .i64 0) := Lib.cell_of_heap h8 5
          have q6 : W8.cell? ⟨r, 6, none⟩ = some (.int .i64 0) := Lib.cell_of_heap h8 6
          have q7 : W8.cell? ⟨r, 7, none⟩ = some (.slice Av n.kids.length cv) := Lib.cell_of_heap h8 7
          simp [results, Tryz.results20, go_sem, q0, q1, q2, q3, q4, q5, q6, q7]
        · have hb8 : Below r wr W8 := ⟨h8a, h8b, h8c, by omega, fun g hg => h8o g (by omega)⟩
          refine ⟨Av, cv, by first | (simp; done) | (simp; rfl), (HWB.out.trans (hbw.mono (by have := HZ.out; omega))).trans (hb8.mono (by have := HZ.out; omega)), ⟨?_, HNT, HTT, HNI⟩⟩
          exact hown.frame (fun g h1 _ => h8o g (by omega)) (by have := HZ.out; omega) (by omega)

theorem bare_ih : ∀ m, BareIH m
  | 0 => fun w0 B A c n w _ hm _ => absurd n.size_pos (by omega)
  | m + 1 => fun w0 B A c n w hv hm hr => bare_step (bare_ih m) hv hm hr
theorem bare_c {w0 w : World} {B : Nat} {A : Option Addr} {c : Nat} {n : Node} (hv : ValAt w0 B A n c) (hr : Ro w0 B w) :
    Calls Tryz.prog 20 #[.agg #[.int .i64 n.kind, .string n.text, .int .i64 n.n, .string n.type, .int .i64 n.slot, .int .i64 n.at_, .int .i64 n.line, .slice A n.kids.length c]] w (Gives (bareN n) w) := bare_ih n.size _ _ _ _ _ _ hv (Nat.le_refl _) hr
end Go.Proofs.YtjdeomenioagdaaGreatDoor
