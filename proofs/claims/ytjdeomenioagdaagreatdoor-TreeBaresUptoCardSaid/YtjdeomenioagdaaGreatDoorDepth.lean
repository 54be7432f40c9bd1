/- How deep a tree is, how many nodes it has: by the program. -/
import Derived.Test.YtjdeomenioagdaaGreatDoorStmt
set_option linter.unusedVariables false
set_option linter.unusedSimpArgs false
namespace Go.Proofs.YtjdeomenioagdaaGreatDoor
open Go.RowKit
theorem NodeAt.open8 {w : World} {B : Nat} {a : Addr} {n : Node} (h : NodeAt w B a n) : ∃ A c, a.block < B ∧ w.cell? a = some (.int .i64 n.kind) ∧ w.cell? (fld a 1) = some (.string n.text) ∧
    w.cell? (fld a 2) = some (.int .i64 n.n) ∧ w.cell? (fld a 3) = some (.string n.type) ∧ w.cell? (fld a 4) = some (.int .i64 n.slot) ∧ w.cell? (fld a 5) = some (.int .i64 n.at_) ∧ w.cell? (fld a 6) = some (.int .i64 n.line) ∧
    w.cell? (fld a 7) = some (.slice A n.kids.length c) ∧ KidsAt w B A n.kids c := by
  cases h with
  | mk _ _ A c hb _ _ _ c0 c1 c2 c3 c4 c5 c6 c7 hc hc' hcc hA hk => exact ⟨A, c, hb, c0, c1, c2, c3, c4, c5, c6, c7, hc, hc', hcc, hA, hk⟩
mutual
theorem depthD_le : ∀ (n : Node) (m : Int), 1 ≤ depthD n m ∧ depthD n m ≤ n.size
  | ⟨_, _, _, _, _, _, _, ks⟩, m => by
    have h := depthsD_le ks m 0 (by omega)
    simp only [depthD, Node.size]
    omega
theorem depthsD_le : ∀ (l : List Node) (m d : Int), 0 ≤ d → d ≤ depthsD l m d ∧ depthsD l m d ≤ d + Node.size.sizes l
  | [], _, d, h => by simp [depthsD, Node.size.sizes]
  | k :: r, m, d, h => by
    simp only [depthsD, Node.size.sizes]
    split
    · have h1 := depthD_le k (m - 1)
      have h2 := depthsD_le r m (max d (depthD k (m - 1))) (by omega)
      omega
    · omega
end
mutual
theorem countD_le : ∀ (n : Node) (m : Int), 1 ≤ countD n m ∧ countD n m ≤ n.size
  | ⟨_, _, _, _, _, _, _, ks⟩, m => by
    have h := countsD_le ks (max m 0) 1 (by omega)
    simp only [countD, Node.size]
    omega
theorem countsD_le : ∀ (l : List Node) (m d : Int), 0 ≤ d → d ≤ countsD l m d ∧ countsD l m d ≤ d + Node.size.sizes l
  | [], _, d, h => by simp [countsD, Node.size.sizes]
  | k :: r, m, d, h => by
    simp only [countsD, Node.size.sizes]
    split
    · have h1 := countD_le k (m - d)
      have h2 := countsD_le r m (d + countD k (m - d)) (by omega)
      omega
    · omega
end
theorem depthD_eq (n : Node) (m : Int) : depthD n m = depthsD n.kids m 0 + 1 := by cases n; simp only [depthD]
theorem countD_eq (n : Node) (m : Int) : countD n m = countsD n.kids (max m 0) 1 := by cases n; simp only [countD]
theorem depthsD_step {l : List Node} {k : Nat} {m d : Int} (h : k < l.length) (hd : d < m) : depthsD (l.drop k) m d = depthsD (l.drop (k + 1)) m (max d (depthD l[k] (m - 1))) := by
  rw [List.drop_eq_getElem_cons h, depthsD, if_pos hd]
theorem depthsD_stop {l : List Node} {m d : Int} (hd : ¬ d < m) : depthsD l m d = d := by
  cases l with
  | nil => rfl
  | cons k r => rw [depthsD, if_neg hd]
theorem countsD_step {l : List Node} {k : Nat} {m d : Int} (h : k < l.length) (hd : d ≤ m) : countsD (l.drop k) m d = countsD (l.drop (k + 1)) m (d + countD l[k] (m - d)) := by
  rw [List.drop_eq_getElem_cons h, countsD, if_pos hd]
theorem countsD_stop {l : List Node} {m d : Int} (hd : ¬ d ≤ m) : countsD l m d = d := by
  cases l with
  | nil => rfl
  | cons k r => rw [countsD, if_neg hd]
theorem size_eq (n : Node) : n.size = 1 + Node.size.sizes n.kids := by cases n; simp only [Node.size]
def nodeV (n : Node) (A : Option Addr) (c : Nat) : Array Value := #[.int .i64 n.kind, .string n.text, .int .i64 n.n, .string n.type, .int .i64 n.slot, .int .i64 n.at_, .int .i64 n.line, .slice A n.kids.length c]
def DepthIH (m : Nat) : Prop := ∀ (w0 : World) (B : Nat) (A : Option Addr) (c : Nat) (n : Node) (most : Int) (w : World), KidsAt w0 B A n.kids c → n.size ≤ m → Ro w0 B w → -9223372036854775808 ≤ most → most ≤ 9223372036854775807 →
  Calls Tryz.prog 13 #[.agg #[.int .i64 n.kind, .string n.text, .int .i64 n.n, .string n.type, .int .i64 n.slot, .int .i64 n.at_, .int .i64 n.line, .slice A n.kids.length c], .int .i64 most] w fun e w' => e = .returned (.int .i64 (depthD n most)) ∧ Ro w0 B w'
set_option maxHeartbeats 40000000 in
set_option maxRecDepth 100000 in
theorem depth_step {w0 w : World} {B : Nat} {A : Option Addr} {c : Nat} {n : Node} {most : Int} {m : Nat} (ih : DepthIH m) (hk : KidsAt w0 B A n.kids c) (hm : n.size ≤ m + 1) (hr : Ro w0 B w) (hs : n.size ≤ 1048576) (h1 : -9223372036854775808 ≤ most) (h2 : most ≤ 9223372036854775807) :
    Calls Tryz.prog 13 #[.agg #[.int .i64 n.kind, .string n.text, .int .i64 n.n, .string n.type, .int .i64 n.slot, .int .i64 n.at_, .int .i64 n.line, .slice A n.kids.length c], .int .i64 most] w fun e w' => e = .returned (.int .i64 (depthD n most)) ∧ Ro w0 B w' := by
  have E := Lib.hid (depthD_eq n most)
  have hl := hk.le
  have hl' := hk.le'
  have hsz := size_eq n
  go_enter Tryz.func13, Tryz.ntmps13
  go_wp2_with fail
  obtain ⟨W, hW⟩ : ∃ W, W = w.alloc (.cells (nodeV n A c) 25) := ⟨_, rfl⟩
  have hW' : w.alloc (.cells (nodeV n A c) 25) = W := hW.symm
  unfold nodeV at hW'
  rw [hW']
  clear hW'
  have hrW : Ro w0 B W := hW ▸ hr.alloc _
  have gall : ∀ j, W.cell? ⟨w.heap.size, j, none⟩ = (nodeV n A c)[j]? := fun j => by rw [hW]; exact cell_new _ _ _ _
  have gz : w.heap.size < W.heap.size := by rw [hW]; simp
  clear hW
  generalize w.heap.size = g at gall gz ⊢
  have g0 : W.cell? ⟨g, 0, none⟩ = some (.int .i64 n.kind) := gall 0
  have g1 : W.cell? ⟨g, 1, none⟩ = some (.string n.text) := gall 1
  have g2 : W.cell? ⟨g, 2, none⟩ = some (.int .i64 n.n) := gall 2
  have g3 : W.cell? ⟨g, 3, none⟩ = some (.string n.type) := gall 3
  have g4 : W.cell? ⟨g, 4, none⟩ = some (.int .i64 n.slot) := gall 4
  have g5 : W.cell? ⟨g, 5, none⟩ = some (.int .i64 n.at_) := gall 5
  have g6 : W.cell? ⟨g, 6, none⟩ = some (.int .i64 n.line) := gall 6
  have g7 : W.cell? ⟨g, 7, none⟩ = some (.slice A n.kids.length c) := gall 7
  clear gall
  have hkW := hrW.kids hk
  go_loopw [5, 6] (fun u v wr => ∃ (k : Nat) (d : Int), k ≤ n.kids.length ∧ v = .int .i64 k ∧ u = .int .i64 d ∧ 0 ≤ d ∧ d ≤ 1048576 ∧ Hid (depthsD n.kids most 0 = depthsD (n.kids.drop k) most d) ∧ Ro W W.heap.size wr) (fun _ v _ => (n.kids.length - (intOf v).toNat : Nat))
  case atStart => exact ⟨0, 0, by omega, rfl, rfl, by omega, by omega, rfl, Ro.self W⟩
  case round =>
    obtain ⟨k, d, hkl, rfl, rfl, hd0, hd1, H, hrw⟩ := hrel
    have hc := hrw.cell
    by_cases hlt : k < n.kids.length
    · by_cases hd : d < most
      · obtain ⟨ad, rfl⟩ := hk.some_ (by omega)
        have hkid := kid_at hkW hlt
        have hks := n.size_kid (List.getElem_mem hlt)
        have HN : Hid (depthsD n.kids most 0 = depthsD (n.kids.drop (k + 1)) most (max d (depthD n.kids[k] (most - 1)))) := by show _ = _; rw [H.out, depthsD_step hlt hd]
        have hdl := depthD_le n.kids[k] (most - 1)
        generalize n.kids[k] = kk at hkid hks HN hdl
        obtain ⟨A', c', hb, c0, c1, c2, c3, c4, c5, c6, c7, hk'⟩ := hkid.open8
        have HC : Hid (∀ w, Ro W W.heap.size w → Calls Tryz.prog 13 #[.agg #[.int .i64 kk.kind, .string kk.text, .int .i64 kk.n, .string kk.type, .int .i64 kk.slot, .int .i64 kk.at_, .int .i64 kk.line, .slice A' kk.kids.length c'], .int .i64 (most - 1)] w fun e w' => e = .returned (.int .i64 (depthD kk (most - 1))) ∧ Ro W W.heap.size w') := fun w hr => ih _ _ _ _ _ _ _ hk' (by omega) hr (by omega) (by omega)
        clear H hk hkW hkid hk'
        go_wp2_with (go_at_call 13; (with_reducible refine (HC.out _ ?hr).mono ?_); (case hr => assumption); rintro e w1 ⟨rfl, hr1⟩)
        exact ⟨⟨k + 1, max d (depthD kk (most - 1)), by omega, by go_num, rfl, by omega, by omega, HN, hr1⟩, by simp [intOf]; omega⟩
      · have HN : Hid (depthsD n.kids most 0 = d) := by show _ = _; rw [H.out, depthsD_stop hd]
        clear H
        go_wp2_with fail
        go_ret
        exact ⟨ret_int (by rw [E.out, HN.out]), hrW.trans_ hrw⟩
    · have HN : Hid (depthsD n.kids most 0 = d) := by show _ = _; rw [H.out, List.drop_eq_nil_of_le (by omega)]; rfl
      clear H
      go_wp2_with fail
      go_ret
      exact ⟨ret_int (by rw [E.out, HN.out]), hrW.trans_ hrw⟩
def CountIH (m : Nat) : Prop := ∀ (w0 : World) (B : Nat) (A : Option Addr) (c : Nat) (n : Node) (most : Int) (w : World), KidsAt w0 B A n.kids c → n.size ≤ m → Ro w0 B w → -9223372036854775808 ≤ most → most ≤ 9223372036854775807 →
  Calls Tryz.prog 12 #[.agg #[.int .i64 n.kind, .string n.text, .int .i64 n.n, .string n.type, .int .i64 n.slot, .int .i64 n.at_, .int .i64 n.line, .slice A n.kids.length c], .int .i64 most] w fun e w' => e = .returned (.int .i64 (countD n most)) ∧ Ro w0 B w'
set_option maxHeartbeats 40000000 in
set_option maxRecDepth 100000 in
theorem count_step {w0 w : World} {B : Nat} {A : Option Addr} {c : Nat} {n : Node} {most : Int} {m : Nat} (ih : CountIH m) (hk : KidsAt w0 B A n.kids c) (hm : n.size ≤ m + 1) (hr : Ro w0 B w) (hs : n.size ≤ 1048576) (h1 : -9223372036854775808 ≤ most) (h2 : most ≤ 9223372036854775807) :
    Calls Tryz.prog 12 #[.agg #[.int .i64 n.kind, .string n.text, .int .i64 n.n, .string n.type, .int .i64 n.slot, .int .i64 n.at_, .int .i64 n.line, .slice A n.kids.length c], .int .i64 most] w fun e w' => e = .returned (.int .i64 (countD n most)) ∧ Ro w0 B w' := by
  have E := Lib.hid (countD_eq n most)
  have hl := hk.le
  have hl' := hk.le'
  have hsz := size_eq n
  go_enter Tryz.func12, Tryz.ntmps12
  go_wp2_with fail
  obtain ⟨W, hW⟩ : ∃ W, W = w.alloc (.cells (nodeV n A c) 25) := ⟨_, rfl⟩
  have hW' : w.alloc (.cells (nodeV n A c) 25) = W := hW.symm
  unfold nodeV at hW'
  rw [hW']
  clear hW'
  have hrW : Ro w0 B W := hW ▸ hr.alloc _
  have gall : ∀ j, W.cell? ⟨w.heap.size, j, none⟩ = (nodeV n A c)[j]? := fun j => by rw [hW]; exact cell_new _ _ _ _
  have gz : w.heap.size < W.heap.size := by rw [hW]; simp
  clear hW
  generalize w.heap.size = g at gall gz ⊢
  have g0 : W.cell? ⟨g, 0, none⟩ = some (.int .i64 n.kind) := gall 0
  have g1 : W.cell? ⟨g, 1, none⟩ = some (.string n.text) := gall 1
  have g2 : W.cell? ⟨g, 2, none⟩ = some (.int .i64 n.n) := gall 2
  have g3 : W.cell? ⟨g, 3, none⟩ = some (.string n.type) := gall 3
  have g4 : W.cell? ⟨g, 4, none⟩ = some (.int .i64 n.slot) := gall 4
  have g5 : W.cell? ⟨g, 5, none⟩ = some (.int .i64 n.at_) := gall 5
  have g6 : W.cell? ⟨g, 6, none⟩ = some (.int .i64 n.line) := gall 6
  have g7 : W.cell? ⟨g, 7, none⟩ = some (.slice A n.kids.length c) := gall 7
  clear gall
  have hkW := hrW.kids hk
  go_loopw [5, 6] (fun u v wr => ∃ (k : Nat) (d : Int), k ≤ n.kids.length ∧ v = .int .i64 k ∧ u = .int .i64 d ∧ 0 ≤ d ∧ d ≤ 1048576 ∧ Hid (countsD n.kids (max most 0) 1 = countsD (n.kids.drop k) (max most 0) d) ∧ Ro W W.heap.size wr) (fun _ v _ => (n.kids.length - (intOf v).toNat : Nat))
  case atStart => exact ⟨0, 1, by omega, rfl, rfl, by omega, by omega, rfl, Ro.self W⟩
  case round =>
    obtain ⟨k, d, hkl, rfl, rfl, hd0, hd1, H, hrw⟩ := hrel
    have hc := hrw.cell
    by_cases hlt : k < n.kids.length
    · by_cases hd : d ≤ max most 0
      · obtain ⟨ad, rfl⟩ := hk.some_ (by omega)
        have hkid := kid_at hkW hlt
        have hks := n.size_kid (List.getElem_mem hlt)
        have HN : Hid (countsD n.kids (max most 0) 1 = countsD (n.kids.drop (k + 1)) (max most 0) (d + countD n.kids[k] (max most 0 - d))) := by show _ = _; rw [H.out, countsD_step hlt hd]
        have hdl := countD_le n.kids[k] (max most 0 - d)
        generalize n.kids[k] = kk at hkid hks HN hdl
        have hbd : d + countD kk (max most 0 - d) ≤ 1048576 := by
          have a1 := (countsD_le (n.kids.drop (k + 1)) (max most 0) (d + countD kk (max most 0 - d)) (by omega)).1
          have a2 := (countsD_le n.kids (max most 0) 1 (by omega)).2
          rw [HN.out] at a2
          omega
        obtain ⟨A', c', hb, c0, c1, c2, c3, c4, c5, c6, c7, hk'⟩ := hkid.open8
        have HC : Hid (∀ w, Ro W W.heap.size w → Calls Tryz.prog 12 #[.agg #[.int .i64 kk.kind, .string kk.text, .int .i64 kk.n, .string kk.type, .int .i64 kk.slot, .int .i64 kk.at_, .int .i64 kk.line, .slice A' kk.kids.length c'], .int .i64 (max most 0 - d)] w fun e w' => e = .returned (.int .i64 (countD kk (max most 0 - d))) ∧ Ro W W.heap.size w') := fun w hr => ih _ _ _ _ _ _ _ hk' (by omega) hr (by omega) (by omega)
        clear H hk hkW hkid hk'
        go_wp2_with (go_at_call 12; (with_reducible refine (HC.out _ ?hr).mono ?_); (case hr => assumption); rintro e w1 ⟨rfl, hr1⟩)
        exact ⟨⟨k + 1, d + countD kk (max most 0 - d), by omega, by go_num, rfl, by omega, by omega, HN, hr1⟩, by simp [intOf]; omega⟩
      · have HN : Hid (countsD n.kids (max most 0) 1 = d) := by show _ = _; rw [H.out, countsD_stop hd]
        clear H
        go_wp2_with fail
        go_ret
        exact ⟨ret_int (by rw [E.out, HN.out]), hrW.trans_ hrw⟩
    · have HN : Hid (countsD n.kids (max most 0) 1 = d) := by show _ = _; rw [H.out, List.drop_eq_nil_of_le (by omega)]; rfl
      clear H
      go_wp2_with fail
      go_ret
      exact ⟨ret_int (by rw [E.out, HN.out]), hrW.trans_ hrw⟩
theorem depth_ih : ∀ m, m ≤ 1048576 → DepthIH m
  | 0, _ => fun w0 B A c n most w hk hm hr h1 h2 => absurd n.size_pos (by omega)
  | m + 1, h => fun w0 B A c n most w hk hm hr h1 h2 => depth_step (depth_ih m (by omega)) hk hm hr (by omega) h1 h2
theorem count_ih : ∀ m, m ≤ 1048576 → CountIH m
  | 0, _ => fun w0 B A c n most w hk hm hr h1 h2 => absurd n.size_pos (by omega)
  | m + 1, h => fun w0 B A c n most w hk hm hr h1 h2 => count_step (count_ih m (by omega)) hk hm hr (by omega) h1 h2
theorem depth_c {w0 w : World} {B : Nat} {A : Option Addr} {c : Nat} {n : Node} {most : Int} (hk : KidsAt w0 B A n.kids c) (hr : Ro w0 B w) (hs : n.size ≤ 1048576) (h1 : -9223372036854775808 ≤ most) (h2 : most ≤ 9223372036854775807) :
    Calls Tryz.prog 13 #[.agg #[.int .i64 n.kind, .string n.text, .int .i64 n.n, .string n.type, .int .i64 n.slot, .int .i64 n.at_, .int .i64 n.line, .slice A n.kids.length c], .int .i64 most] w fun e w' => e = .returned (.int .i64 (depthD n most)) ∧ Ro w0 B w' := depth_ih n.size hs _ _ _ _ _ _ _ hk (Nat.le_refl _) hr h1 h2
theorem count_c {w0 w : World} {B : Nat} {A : Option Addr} {c : Nat} {n : Node} {most : Int} (hk : KidsAt w0 B A n.kids c) (hr : Ro w0 B w) (hs : n.size ≤ 1048576) (h1 : -9223372036854775808 ≤ most) (h2 : most ≤ 9223372036854775807) :
    Calls Tryz.prog 12 #[.agg #[.int .i64 n.kind, .string n.text, .int .i64 n.n, .string n.type, .int .i64 n.slot, .int .i64 n.at_, .int .i64 n.line, .slice A n.kids.length c], .int .i64 most] w fun e w' => e = .returned (.int .i64 (countD n most)) ∧ Ro w0 B w' := count_ih n.size hs _ _ _ _ _ _ _ hk (Nat.le_refl _) hr h1 h2
end Go.Proofs.YtjdeomenioagdaaGreatDoor
