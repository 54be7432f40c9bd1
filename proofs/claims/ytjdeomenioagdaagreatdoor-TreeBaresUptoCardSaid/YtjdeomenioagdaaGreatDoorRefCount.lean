/- Count, by the reference; Great. -/
import Derived.Test.YtjdeomenioagdaaGreatDoorSize
set_option linter.unusedVariables false
set_option linter.unusedSimpArgs false
namespace Go.Proofs.YtjdeomenioagdaaGreatDoor
open Go.RowKit
theorem countD_none (n : Node) (m : Int) (h : m ≤ 0) : countD n m = 1 := by
  rw [countD_eq, countsD_stop (by omega)]
theorem countD_pos (n : Node) (m : Int) (h : 0 ≤ m) : countD n m = countsD n.kids m 1 := by rw [countD_eq, Int.max_eq_left h]
def RefCountIH (m : Nat) : Prop := ∀ (w0 : World) (B : Nat) (A : Option Addr) (c : Nat) (n : Node) (most : Int) (w : World), KidsAt w0 B A n.kids c → n.size ≤ m → Ro w0 B w → -9223372036854775808 ≤ most → most ≤ 9223372036854775807 →
  Calls Tryz.prog 17 #[.agg #[.int .i64 n.kind, .string n.text, .int .i64 n.n, .string n.type, .int .i64 n.slot, .int .i64 n.at_, .int .i64 n.line, .slice A n.kids.length c], .int .i64 most] w fun e w' => e = .returned (.int .i64 (countD n most)) ∧ Ro w0 B w'
set_option maxHeartbeats 40000000 in
set_option maxRecDepth 100000 in
theorem refcount_low {w0 w : World} {B : Nat} {A : Option Addr} {c : Nat} {n : Node} {most : Int} (hk : KidsAt w0 B A n.kids c) (hr : Ro w0 B w) (h : most ≤ 0) :
    Calls Tryz.prog 17 #[.agg #[.int .i64 n.kind, .string n.text, .int .i64 n.n, .string n.type, .int .i64 n.slot, .int .i64 n.at_, .int .i64 n.line, .slice A n.kids.length c], .int .i64 most] w fun e w' => e = .returned (.int .i64 (countD n most)) ∧ Ro w0 B w' := by
  have E := Lib.hid (countD_none n most h)
  rcases (by omega : most < 0 ∨ most = 0) with h0 | h0
  · go_enter Tryz.func17, Tryz.ntmps17
    go_wp2_with fail
    go_ret
    exact ⟨ret_int (by rw [E.out]), hr.alloc _⟩
  · subst h0
    go_enter Tryz.func17, Tryz.ntmps17
    go_wp2_with fail
    go_ret
    exact ⟨ret_int (by rw [E.out]), hr.alloc _⟩
set_option maxHeartbeats 40000000 in
set_option maxRecDepth 100000 in
theorem refcount_step {w0 w : World} {B : Nat} {A : Option Addr} {c : Nat} {n : Node} {most : Int} {m : Nat} (ih : RefCountIH m) (hk : KidsAt w0 B A n.kids c) (hm : n.size ≤ m + 1) (hr : Ro w0 B w) (hs : n.size ≤ 1048576) (h1 : 0 < most) (h2 : most ≤ 9223372036854775807) :
    Calls Tryz.prog 17 #[.agg #[.int .i64 n.kind, .string n.text, .int .i64 n.n, .string n.type, .int .i64 n.slot, .int .i64 n.at_, .int .i64 n.line, .slice A n.kids.length c], .int .i64 most] w fun e w' => e = .returned (.int .i64 (countD n most)) ∧ Ro w0 B w' := by
  have E := Lib.hid (countD_pos n most (by omega))
  have hl := hk.le
  have hl' := hk.le'
  have hsz := size_eq n
  have hm1 : (most == 0) = false := by rw [beq_eq_false_iff_ne]; omega
  go_enter Tryz.func17, Tryz.ntmps17
  go_wp2_with fail
  obtain ⟨W, hW⟩ : ∃ W, W = w.alloc (.cells (nodeV n A c) 25) := ⟨_, rfl⟩
  have hW' : w.alloc (.cells (nodeV n A c) 25) = W := hW.symm
  unfold nodeV at hW'
  rw [hW']
  clear hW'
  have hrW : Ro w0 B W := hW ▸ hr.alloc _
  have gall : ∀ j, W.cell? ⟨w.heap.size, j, none⟩ = (nodeV n A c)[j]? := fun j => by rw [hW]; exact cell_new _ _ _ _
  have gz : w.heap.size < W.heap.size := by rw [hW]; simp
  clear hW
  generalize w.heap.size = g at gall gz ⊢
  have g0 : W.cell? ⟨g, 0, none⟩ = some (.int .i64 n.kind) := gall 0
  have g1 : W.cell? ⟨g, 1, none⟩ = some (.string n.text) := gall 1
  have g2 : W.cell? ⟨g, 2, none⟩ = some (.int .i64 n.n) := gall 2
  have g3 : W.cell? ⟨g, 3, none⟩ = some (.string n.type) := gall 3
  have g4 : W.cell? ⟨g, 4, none⟩ = some (.int .i64 n.slot) := gall 4
  have g5 : W.cell? ⟨g, 5, none⟩ = some (.int .i64 n.at_) := gall 5
  have g6 : W.cell? ⟨g, 6, none⟩ = some (.int .i64 n.line) := gall 6
  have g7 : W.cell? ⟨g, 7, none⟩ = some (.slice A n.kids.length c) := gall 7
  clear gall
  have hkW := hrW.kids hk
  go_loopw [5, 6] (fun u v wr => ∃ (k : Nat) (d : Int), k ≤ n.kids.length ∧ v = .int .i64 k ∧ u = .int .i64 d ∧ 0 ≤ d ∧ d ≤ 1048576 ∧ Hid (countsD n.kids most 1 = countsD (n.kids.drop k) most d) ∧ Ro W W.heap.size wr) (fun _ v _ => (n.kids.length - (intOf v).toNat : Nat))
  case atStart => exact ⟨0, 1, by omega, rfl, rfl, by omega, by omega, rfl, Ro.self W⟩
  case round =>
    obtain ⟨k, d, hkl, rfl, rfl, hd0, hd1, H, hrw⟩ := hrel
    have hc := hrw.cell
    by_cases hlt : k < n.kids.length
    · by_cases hd : d ≤ most
      · obtain ⟨ad, rfl⟩ := hk.some_ (by omega)
        have hkid := kid_at hkW hlt
        have hks := n.size_kid (List.getElem_mem hlt)
        have HN : Hid (countsD n.kids most 1 = countsD (n.kids.drop (k + 1)) most (d + countD n.kids[k] (most - d))) := by show _ = _; rw [H.out, countsD_step hlt hd]
        have hdl := countD_le n.kids[k] (most - d)
        generalize n.kids[k] = kk at hkid hks HN hdl
        have hbd : d + countD kk (most - d) ≤ 1048576 := by
          have a1 := (countsD_le (n.kids.drop (k + 1)) most (d + countD kk (most - d)) (by omega)).1
          have a2 := (countsD_le n.kids most 1 (by omega)).2
          rw [HN.out] at a2
          omega
        obtain ⟨A', c', hb, c0, c1, c2, c3, c4, c5, c6, c7, hk'⟩ := hkid.open8
        have HC : Hid (∀ w, Ro W W.heap.size w → Calls Tryz.prog 17 #[.agg #[.int .i64 kk.kind, .string kk.text, .int .i64 kk.n, .string kk.type, .int .i64 kk.slot, .int .i64 kk.at_, .int .i64 kk.line, .slice A' kk.kids.length c'], .int .i64 (most - d)] w fun e w' => e = .returned (.int .i64 (countD kk (most - d))) ∧ Ro W W.heap.size w') := fun w hr => ih _ _ _ _ _ _ _ hk' (by omega) hr (by omega) (by omega)
        clear H hk hkW hkid hk'
        go_wp2_with (go_at_call 17; (with_reducible refine (HC.out _ ?hr).mono ?_); (case hr => assumption); rintro e w1 ⟨rfl, hr1⟩)
        exact ⟨⟨k + 1, d + countD kk (most - d), by omega, by go_num, rfl, by omega, by omega, HN, hr1⟩, by simp [intOf]; omega⟩
      · have HN : Hid (countsD n.kids most 1 = d) := by show _ = _; rw [H.out, countsD_stop hd]
        clear H
        go_wp2_with fail
        go_ret
        exact ⟨ret_int (by rw [E.out, HN.out]), hrW.trans_ hrw⟩
    · have HN : Hid (countsD n.kids most 1 = d) := by show _ = _; rw [H.out, List.drop_eq_nil_of_le (by omega)]; rfl
      clear H
      go_wp2_with fail
      go_ret
      exact ⟨ret_int (by rw [E.out, HN.out]), hrW.trans_ hrw⟩
theorem refcount_ih : ∀ m, m ≤ 1048576 → RefCountIH m
  | 0, _ => fun w0 B A c n most w hk hm hr h1 h2 => absurd n.size_pos (by omega)
  | m + 1, h => fun w0 B A c n most w hk hm hr h1 h2 => by
    rcases (by omega : most ≤ 0 ∨ 0 < most) with h0 | h0
    · exact refcount_low hk hr h0
    · exact refcount_step (refcount_ih m (by omega)) hk hm hr (by omega) h0 h2
theorem refcount_c {w0 w : World} {B : Nat} {A : Option Addr} {c : Nat} {n : Node} {most : Int} (hk : KidsAt w0 B A n.kids c) (hr : Ro w0 B w) (hs : n.size ≤ 1048576) (h1 : -9223372036854775808 ≤ most) (h2 : most ≤ 9223372036854775807) :
    Calls Tryz.prog 17 #[.agg #[.int .i64 n.kind, .string n.text, .int .i64 n.n, .string n.type, .int .i64 n.slot, .int .i64 n.at_, .int .i64 n.line, .slice A n.kids.length c], .int .i64 most] w fun e w' => e = .returned (.int .i64 (countD n most)) ∧ Ro w0 B w' :=
  refcount_ih n.size hs _ _ _ _ _ _ _ hk (Nat.le_refl _) hr h1 h2
def greatB (n : Node) : Bool := decide (65536 < countD n 65536)
set_option maxHeartbeats 40000000 in
set_option maxRecDepth 100000 in
theorem great_c {w0 w : World} {B : Nat} {A : Option Addr} {c : Nat} {n : Node} (hk : KidsAt w0 B A n.kids c) (hr : Ro w0 B w) (hs : n.size ≤ 1048576) :
    Calls Tryz.prog 8 #[.agg #[.int .i64 n.kind, .string n.text, .int .i64 n.n, .string n.type, .int .i64 n.slot, .int .i64 n.at_, .int .i64 n.line, .slice A n.kids.length c]] w fun e w' => e = .returned (.bool (greatB n)) ∧ Ro w0 B w' := by
  have hr1 := hr.alloc (.cells (nodeV n A c) 25)
  go_enter Tryz.func8, Tryz.ntmps8
  go_wp2_with (go_at_call 17; (with_reducible refine (refcount_c hk ?hr hs (by omega) (by omega)).mono ?_); (case hr => exact hr.alloc _); rintro e w1 ⟨rfl, hr1⟩)
  go_ret
  exact ⟨rfl, hr1⟩
end Go.Proofs.YtjdeomenioagdaaGreatDoor
