/- The live question. -/
import Derived.Test.YtjdeomenioagdaaGreatDoorRefCount
set_option linter.unusedVariables false
set_option linter.unusedSimpArgs false
namespace Go.Proofs.YtjdeomenioagdaaGreatDoor
open Go.RowKit
def fileN : Node := ⟨1, ⟨#[]⟩, 0, ⟨#[]⟩, 0, 0, 0, []⟩
def zeroN : Node := ⟨0, ⟨#[]⟩, 0, ⟨#[]⟩, 0, 0, 0, []⟩
theorem nil_list : (⟨#[]⟩ : ByteArray).toList = [] := by rw [data_list]
theorem bare_none (k : Int) : bareB ⟨k, ⟨#[]⟩, 0, ⟨#[]⟩, 0, 0, 0, []⟩ false false false = true := by
  simp [bareB, nil_list]
theorem depth_leaf (n : Node) (m : Int) (h : n.kids = []) : depthD n m = 1 := by rw [depthD_eq, h]; rfl
theorem right_file : rightD fileN = 0 := by
  unfold rightD
  rw [depth_leaf _ _ rfl, if_neg (by omega), if_pos]
  have := bare_none 1
  simp [fileN] at this ⊢
  exact this
theorem right_zero : rightD zeroN = 41 := by
  unfold rightD
  rw [depth_leaf _ _ rfl, if_neg (by omega), if_neg]
  simp [zeroN]
theorem text_file : textD fileN = ⟨#[]⟩ := by
  unfold textD
  rw [if_pos right_file]
  rfl
theorem val_leaf (w : World) (B : Nat) (k : Int) : ValAt w B none ⟨k, ⟨#[]⟩, 0, ⟨#[]⟩, 0, 0, 0, []⟩ 0 :=
  ⟨KidsAt.nil_ _ (by omega), (show 0 ≤ _ from by omega), (show 0 ≤ _ from by omega), (show _ ≤ (0 : Int) ∧ (0 : Int) ≤ _ from by omega)⟩
theorem size_leaf (k : Int) : (⟨k, ⟨#[]⟩, 0, ⟨#[]⟩, 0, 0, 0, []⟩ : Node).size ≤ 1048576 := by simp [Node.size, Node.size.sizes]
set_option maxHeartbeats 40000000 in
set_option maxRecDepth 100000 in
theorem alive_c {w0 w : World} {B : Nat} (he : Env w0 B) (hr : Ro w0 B w) :
    Calls Tryz.prog 7 #[] w fun e w' => e = .returned (.bool true) ∧ Ro w0 B w' := by
  go_enter Tryz.func7, Tryz.ntmps7
  go_wp2_with fail
  obtain ⟨W, hW⟩ : ∃ W, W = w.alloc (.cells #[.int .i64 1, .string ⟨#[]⟩, .int .i64 0, .string ⟨#[]⟩, .int .i64 0, .int .i64 0, .int .i64 0, .slice none 0 0] 25) := ⟨_, rfl⟩
  have hW' : w.alloc (.cells #[.int .i64 1, .string ⟨#[]⟩, .int .i64 0, .string ⟨#[]⟩, .int .i64 0, .int .i64 0, .int .i64 0, .slice none 0 0] 25) = W := hW.symm
  rw [hW']
  clear hW'
  have hrW : Ro w0 B W := hW ▸ hr.alloc _
  have gall : ∀ j, W.cell? ⟨w.heap.size, j, none⟩ = (#[.int .i64 1, .string ⟨#[]⟩, .int .i64 0, .string ⟨#[]⟩, .int .i64 0, .int .i64 0, .int .i64 0, .slice none 0 0] : Array Value)[j]? := fun j => by rw [hW]; exact cell_new _ _ _ _
  have gz : w.heap.size < W.heap.size := by rw [hW]; simp
  clear hW
  generalize w.heap.size = g at gall gz ⊢
  have g0 : W.cell? ⟨g, 0, none⟩ = some (.int .i64 1) := gall 0
  have g1 : W.cell? ⟨g, 1, none⟩ = some (.string ⟨#[]⟩) := gall 1
  have g2 : W.cell? ⟨g, 2, none⟩ = some (.int .i64 0) := gall 2
  have g3 : W.cell? ⟨g, 3, none⟩ = some (.string ⟨#[]⟩) := gall 3
  have g4 : W.cell? ⟨g, 4, none⟩ = some (.int .i64 0) := gall 4
  have g5 : W.cell? ⟨g, 5, none⟩ = some (.int .i64 0) := gall 5
  have g6 : W.cell? ⟨g, 6, none⟩ = some (.int .i64 0) := gall 6
  have g7 : W.cell? ⟨g, 7, none⟩ = some (.slice none 0 0) := gall 7
  clear gall
  have hrs := Ro.self W
  have HT := fun (w : World) (hr : Ro W W.heap.size w) => text_c (n := fileN) (he.at_ hrW) (val_leaf W W.heap.size 1) hr (size_leaf 1) (fun _ => by rw [show textS fileN = ByteArray.empty from rfl]; simp)
  have HR := fun (w : World) (hr : Ro W W.heap.size w) => right_c (n := fileN) (val_leaf W W.heap.size 1) hr (size_leaf 1)
  have HZ := fun (w : World) (hr : Ro W W.heap.size w) => right_c (n := zeroN) (val_leaf W W.heap.size 0) hr (size_leaf 0)
  have HD := fun (w : World) (hr : Ro W W.heap.size w) => depth_c (n := fileN) (most := 5) (val_leaf W W.heap.size 1).kids hr (size_leaf 1) (by omega) (by omega)
  rw [text_file, right_file] at HT
  rw [right_file] at HR
  rw [right_zero] at HZ
  rw [depth_leaf fileN 5 rfl] at HD
  replace HT : Hid (∀ w, Ro W W.heap.size w → Calls Tryz.prog 11 #[.agg #[.int .i64 1, .string ⟨#[]⟩, .int .i64 0, .string ⟨#[]⟩, .int .i64 0, .int .i64 0, .int .i64 0, .slice none 0 0]] w fun e w' => e = .returned (.tuple #[.string ⟨#[]⟩, .int .i64 0]) ∧ Ro W W.heap.size w') := HT
  replace HR : Hid (∀ w, Ro W W.heap.size w → Calls Tryz.prog 10 #[.agg #[.int .i64 1, .string ⟨#[]⟩, .int .i64 0, .string ⟨#[]⟩, .int .i64 0, .int .i64 0, .int .i64 0, .slice none 0 0]] w fun e w' => e = .returned (.int .i64 0) ∧ Ro W W.heap.size w') := HR
  replace HZ : Hid (∀ w, Ro W W.heap.size w → Calls Tryz.prog 10 #[.agg #[.int .i64 0, .string ⟨#[]⟩, .int .i64 0, .string ⟨#[]⟩, .int .i64 0, .int .i64 0, .int .i64 0, .slice none 0 0]] w fun e w' => e = .returned (.int .i64 41) ∧ Ro W W.heap.size w') := HZ
  replace HD : Hid (∀ w, Ro W W.heap.size w → Calls Tryz.prog 13 #[.agg #[.int .i64 1, .string ⟨#[]⟩, .int .i64 0, .string ⟨#[]⟩, .int .i64 0, .int .i64 0, .int .i64 0, .slice none 0 0], .int .i64 5] w fun e w' => e = .returned (.int .i64 1) ∧ Ro W W.heap.size w') := HD
  go_wp2_with (first
    | (go_at_call 11; (with_reducible refine (HT.out _ ?hr).mono ?_); (case hr => assumption); rintro e w1 ⟨rfl, hr1⟩; have hc1 := hr1.cell)
    | (go_at_call 10; (first
        | (with_reducible refine (HR.out _ ?hr).mono ?_); (case hr => assumption); rintro e w2 ⟨rfl, hr2⟩; have hc2 := hr2.cell
        | (with_reducible refine (HZ.out _ ?hr).mono ?_); (case hr => assumption); rintro e w3 ⟨rfl, hr3⟩; have hc3 := hr3.cell))
    | (go_at_call 13; (with_reducible refine (HD.out _ ?hr).mono ?_); (case hr => assumption); rintro e w4 ⟨rfl, hr4⟩))
  go_ret
  exact ⟨rfl, hrW.trans_ hr4⟩
end Go.Proofs.YtjdeomenioagdaaGreatDoor
