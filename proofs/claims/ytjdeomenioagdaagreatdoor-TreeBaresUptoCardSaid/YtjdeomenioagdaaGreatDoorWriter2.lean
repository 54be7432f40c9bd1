/- The writer: the parts that are added; tabs; numbers; quoted text. -/
import Derived.Test.YtjdeomenioagdaaGreatDoorWriter
set_option linter.unusedVariables false
set_option linter.unusedSimpArgs false
namespace Go.Proofs.YtjdeomenioagdaaGreatDoor
open Go.RowKit
theorem add1_c {w0 w : World} {B g : Nat} {d : Option Int} {s : ByteArray} (h : St w0 B g d s w) (u1 : ByteArray) (hm : s.size + (u1.size) ≤ 140737488355328) :
    Calls Tryz.prog 27 #[.pointer (some ⟨g, 0, none⟩), .slice (some ⟨w.heap.size, 0, none⟩) 1 1] (w.alloc (.cells #[.string u1] 9)) fun e w' => e = .returned (.tuple #[]) ∧ St w0 B g d (s ++ u1) w' ∧ Wf g w w' := by
  have hg : w.heap.size ≠ g := by
    obtain ⟨_, p, v, _, hg, _⟩ := h.wr
    have := (Array.getElem?_eq_some_iff.1 hg).1
    omega
  refine (add_c (h.alloc (.cells #[.string u1] 9)) [u1] (heap_alloc_new w _) hg (by simp) ?_).mono ?_
  · simp only [partsS, ByteArray.size_append, ByteArray.size_empty]
    omega
  · rintro e w' ⟨rfl, h1, h2⟩
    refine ⟨rfl, ?_, ((Wf.refl g w).alloc _).trans h2⟩
    simpa only [partsS, ByteArray.append_empty, ByteArray.append_assoc] using h1
theorem add2_c {w0 w : World} {B g : Nat} {d : Option Int} {s : ByteArray} (h : St w0 B g d s w) (u1 u2 : ByteArray) (hm : s.size + (u1.size + u2.size) ≤ 140737488355328) :
    Calls Tryz.prog 27 #[.pointer (some ⟨g, 0, none⟩), .slice (some ⟨w.heap.size, 0, none⟩) 2 2] (w.alloc (.cells #[.string u1, .string u2] 9)) fun e w' => e = .returned (.tuple #[]) ∧ St w0 B g d (s ++ u1 ++ u2) w' ∧ Wf g w w' := by
  have hg : w.heap.size ≠ g := by
    obtain ⟨_, p, v, _, hg, _⟩ := h.wr
    have := (Array.getElem?_eq_some_iff.1 hg).1
    omega
  refine (add_c (h.alloc (.cells #[.string u1, .string u2] 9)) [u1, u2] (heap_alloc_new w _) hg (by simp) ?_).mono ?_
  · simp only [partsS, ByteArray.size_append, ByteArray.size_empty]
    omega
  · rintro e w' ⟨rfl, h1, h2⟩
    refine ⟨rfl, ?_, ((Wf.refl g w).alloc _).trans h2⟩
    simpa only [partsS, ByteArray.append_empty, ByteArray.append_assoc] using h1
theorem add3_c {w0 w : World} {B g : Nat} {d : Option Int} {s : ByteArray} (h : St w0 B g d s w) (u1 u2 u3 : ByteArray) (hm : s.size + (u1.size + u2.size + u3.size) ≤ 140737488355328) :
    Calls Tryz.prog 27 #[.pointer (some ⟨g, 0, none⟩), .slice (some ⟨w.heap.size, 0, none⟩) 3 3] (w.alloc (.cells #[.string u1, .string u2, .string u3] 9)) fun e w' => e = .returned (.tuple #[]) ∧ St w0 B g d (s ++ u1 ++ u2 ++ u3) w' ∧ Wf g w w' := by
  have hg : w.heap.size ≠ g := by
    obtain ⟨_, p, v, _, hg, _⟩ := h.wr
    have := (Array.getElem?_eq_some_iff.1 hg).1
    omega
  refine (add_c (h.alloc (.cells #[.string u1, .string u2, .string u3] 9)) [u1, u2, u3] (heap_alloc_new w _) hg (by simp) ?_).mono ?_
  · simp only [partsS, ByteArray.size_append, ByteArray.size_empty]
    omega
  · rintro e w' ⟨rfl, h1, h2⟩
    refine ⟨rfl, ?_, ((Wf.refl g w).alloc _).trans h2⟩
    simpa only [partsS, ByteArray.append_empty, ByteArray.append_assoc] using h1
theorem add4_c {w0 w : World} {B g : Nat} {d : Option Int} {s : ByteArray} (h : St w0 B g d s w) (u1 u2 u3 u4 : ByteArray) (hm : s.size + (u1.size + u2.size + u3.size + u4.size) ≤ 140737488355328) :
    Calls Tryz.prog 27 #[.pointer (some ⟨g, 0, none⟩), .slice (some ⟨w.heap.size, 0, none⟩) 4 4] (w.alloc (.cells #[.string u1, .string u2, .string u3, .string u4] 9)) fun e w' => e = .returned (.tuple #[]) ∧ St w0 B g d (s ++ u1 ++ u2 ++ u3 ++ u4) w' ∧ Wf g w w' := by
  have hg : w.heap.size ≠ g := by
    obtain ⟨_, p, v, _, hg, _⟩ := h.wr
    have := (Array.getElem?_eq_some_iff.1 hg).1
    omega
  refine (add_c (h.alloc (.cells #[.string u1, .string u2, .string u3, .string u4] 9)) [u1, u2, u3, u4] (heap_alloc_new w _) hg (by simp) ?_).mono ?_
  · simp only [partsS, ByteArray.size_append, ByteArray.size_empty]
    omega
  · rintro e w' ⟨rfl, h1, h2⟩
    refine ⟨rfl, ?_, ((Wf.refl g w).alloc _).trans h2⟩
    simpa only [partsS, ByteArray.append_empty, ByteArray.append_assoc] using h1
set_option maxHeartbeats 40000000 in
set_option maxRecDepth 100000 in
theorem writebyte_c {w0 w : World} {B g : Nat} {d : Option Int} {s : ByteArray} (h : St w0 B g d s w) (c : UInt8) (hm : s.size + 1 ≤ 140737488355328) :
    Calls Tryz.prog 146 #[.pointer (some ⟨g, 0, none⟩), .int .u8 c.toNat] w fun e w' => e = .returned .nilIface ∧ St w0 B g d (s ++ str [c]) w' ∧ Wf g w w' := by
  obtain ⟨i0, hi, hz0, hz1, hz2⟩ := info_byte
  obtain ⟨hr, hB, p, v, hp, hg, hown, he⟩ := h
  have t37 : Tryz.prog.underlying 46 = some (.slice 5) := by kernel_rfl
  go_enter Tryz.func146, Tryz.ntmps146
  go_wp2_with (go_at_call 51; refine (check_c (s := s) hB hr hp hg hown).mono ?_)
  rintro e w1 ⟨rfl, hr1, hg1, hown1, hk1⟩
  have c0 : w1.cell? ⟨g, 0, none⟩ = some (.pointer (some ⟨g, 0, none⟩)) := (Lib.cell_of_heap hg1 0).trans (wrow0 _ _ _)
  have c1 : w1.cell? ⟨g, 1, none⟩ = some v := (Lib.cell_of_heap hg1 1).trans (wrow1 _ _ _)
  go_wp2_with (at_builtin; refine wpList_append_own_at _ rfl _ _ 46 rfl B 5 i0 (.int .u8 0) 1 1 t37 hi hz0 hz1 hz2 rfl (by decide) _ _ _ rfl (hown1.alloc _) ⟨w1.heap.size, 0, none⟩ 1 1 [.int .u8 c.toNat] rfl rfl ?c1 ?c2 ?c3 ?c4 ?c5 ?_)
  case c1 =>
    intro j u hj
    match j, hj with
    | 0, hj => simp at hj; subst hj; simp [Addr.add]
  case c2 => intro u hu; simp at hu; subst hu; rfl
  case c3 => unfold maxLen; omega
  case c4 => omega
  case c5 => have := hr1.size; simp; omega
  intro v' w2 hown' hgrow _ _
  have hlt : g < w1.heap.size := (Array.getElem?_eq_some_iff.1 hg1).1
  have hne : v.ownBlock ≠ some g := Lib.ownBlock_ne hown1 hg1 (wtype_ne d)
  have hb2 : w2.heap[g]? = some (.cells (wrow (.pointer (some ⟨g, 0, none⟩)) v d) (wtype d) (0, 0)) := by
    rw [hgrow.block g (by simp; omega) (fun e => hne e.symm), Lib.alloc_old w1 _ g hlt]
    exact hg1
  have d0 : w2.cell? ⟨g, 0, none⟩ = some (.pointer (some ⟨g, 0, none⟩)) := (Lib.cell_of_heap hb2 0).trans (wrow0 _ _ _)
  have d1 : w2.cell? ⟨g, 1, none⟩ = some v := (Lib.cell_of_heap hb2 1).trans (wrow1 _ _ _)
  have f1 : w2.frozen? ⟨g, 1, none⟩ = false := Lib.frozen_of_heap hb2 1
  have hw2 : Wf g w1 w2 := by
    refine ⟨by have := hgrow.size; simp at this; omega, fun i o ho hig hno => ?_⟩
    have hil := (Array.getElem?_eq_some_iff.1 ho).1
    rw [hgrow.block i (by simp; omega) ?_, Lib.alloc_old w1 _ i hil]
    · exact ho
    · intro e
      rcases hown1.2 with ⟨rfl, _⟩ | ⟨q, cap, cur, rfl, _, hq, _⟩
      · simp [Value.ownBlock] at e
      · simp only [Value.ownBlock, Option.some.injEq] at e
        subst e
        rw [hq] at ho
        exact hno _ _ (Option.some.inj ho).symm
  have hr2 : Ro w0 B w2 := ⟨(hr1.alloc _).below.grown hgrow (hr1.alloc _).size (fun k hk => (hown1.lt k hk).1), by have := hr1.size; have := hgrow.size; simp at this; omega⟩
  obtain ⟨q, cap, rfl⟩ : ∃ q cap, v' = .slice (some ⟨q, 0, none⟩) (s.size + 1) cap := by
    rcases hown'.2 with ⟨_, h0⟩ | ⟨q, cap, cur, hv, _⟩
    · omega
    · exact ⟨q, cap, hv⟩
  go_wp2
  go_ret
  have hsz : (s ++ str [c]).size = s.size + 1 := by rw [ByteArray.size_append]; rfl
  refine ⟨rfl, ⟨hr2.set_ (p := ⟨g, 1, none⟩) hB _, hB, _, (.slice (some ⟨q, 0, none⟩) (s.size + 1) cap), .inr rfl, ?_, ?_, ?_⟩, (hk1.trans hw2).set_ 1 _⟩
  · rw [setCell_row hb2 1, wrow_set1]
  · rw [hsz, strC_append]
    refine World.ownsRow.kept (w := w2) ?_ (row := some g) ⟨rfl, rfl, rfl, by simp [World.setCell], fun k _ hk => Below.heap_setCell _ _ _ _ (fun e => hk (by simp [e]))⟩ ?_
    · exact hown'
    · exact Or.inr (Lib.ownBlock_ne hown' hb2 (wtype_ne d))
  · intro h0
    rw [hsz] at h0
    omega
theorem Wf.below {g : Nat} {w w' : World} (h : Below w.heap.size w w') : Wf g w w' :=
  ⟨h.size, fun b o ho _ _ => by rw [h.block b ((Array.getElem?_eq_some_iff.1 ho).1)]; exact ho⟩
theorem St.below {w0 w w' : World} {B g : Nat} {d : Option Int} {s : ByteArray} (hs : St w0 B g d s w) (h : Below w.heap.size w w') : St w0 B g d s w' := by
  refine ⟨hs.ro.below_ h, ?_⟩
  obtain ⟨hB, p, v, hp, hg, hown, he⟩ := hs.wr
  refine ⟨hB, p, v, hp, ?_, ?_, he⟩
  · rw [h.block g ((Array.getElem?_eq_some_iff.1 hg).1)]
    exact hg
  · refine hown.kept (row := none) ⟨h.os, h.tape, h.output, h.size, fun k hk _ => h.block k hk⟩ ?_
    exact Classical.em _
/-- What the walks ask of the program's variables. -/
structure Env (w0 : World) (B : Nat) : Prop where
  max : ∃ m, ∀ w, Ro w0 B w → w.cell? ⟨0, 0, none⟩ = some (.int .i64 m)
  tab : ∀ w, Ro w0 B w → Lib.TabIs Tryz.prog w "internal/strconv.uint64pow10" .u64 Lib.pow10Tab
theorem Env.at_ {w0 w : World} {B : Nat} (h : Env w0 B) (hr : Ro w0 B w) : Env w w.heap.size :=
  ⟨h.max.imp fun m hm w' hw' => hm w' (hr.trans_ hw'), fun w' hw' => h.tab w' (hr.trans_ hw')⟩
def intS (n : Int) : ByteArray := ⟨(Lib.itoa n).toArray⟩
theorem below_grow {w : World} (k : Nat) (os : Array Obj) : Below w.heap.size w (Go.Sort.grow (w.drewN k) os) := by
  refine ⟨rfl, rfl, rfl, ?_, ?_⟩
  · simp [Go.Sort.grow, World.drewN]
  · intro i hi
    simp only [Go.Sort.grow, World.drewN]
    exact Array.getElem?_append_left hi
set_option maxHeartbeats 40000000 in
set_option maxRecDepth 100000 in
theorem int_c {w : World} (n : Int) (h0 : -9223372036854775808 ≤ n) (h1 : n ≤ 9223372036854775807) (ht : Lib.TabIs Tryz.prog w "internal/strconv.uint64pow10" .u64 Lib.pow10Tab) :
    Calls Tryz.prog 113 #[.int .i64 n] w fun e w' => e = .returned (.string (intS n)) ∧ Below w.heap.size w w' := by
  go_enter Tryz.func113, Tryz.ntmps113
  go_wp2_with (go_at_call 145; refine (Tryz.strconv_FormatInt_10 n h0 h1 _ ht).mono ?_; rintro e w' ⟨rfl, k, os, rfl⟩)
  go_ret
  exact ⟨rfl, below_grow k os⟩
def tabsS (k : Nat) : ByteArray := ⟨(List.replicate k 9).toArray⟩
theorem repeatL_one (c : UInt8) (k : Nat) : Lib.repeatL [c] k = List.replicate k c := by
  induction k with
  | zero => rfl
  | succ k ih => simp [Lib.repeatL, ih, List.replicate_succ]
theorem tabsS_size (k : Nat) : (tabsS k).size = k := by simp [tabsS, ByteArray.size]
theorem repeat_c {w : World} (k : Nat) (hk : k ≤ 2097152) :
    Calls Tryz.prog 53 #[.string ⟨#[9]⟩, .int .i64 k] w fun e w' => e = .returned (.string (tabsS k)) ∧ Below w.heap.size w w' := by
  rcases (by omega : k = 0 ∨ k = 1 ∨ 2 ≤ k) with rfl | rfl | h2
  · refine (Tryz.strings_Repeat_zero _ w).mono ?_
    rintro e w' ⟨rfl, rfl⟩
    exact ⟨rfl, Below.refl _ _⟩
  · refine (Tryz.strings_Repeat_one _ w).mono ?_
    rintro e w' ⟨rfl, rfl⟩
    exact ⟨rfl, Below.refl _ _⟩
  · refine (Tryz.strings_Repeat_main ⟨#[9]⟩ k w h2 (by omega) (by show 1 * k ≤ _; omega) (by decide)).mono ?_
    rintro e w' ⟨rfl, h⟩
    refine ⟨?_, h⟩
    show _ = Ending.returned (.string ⟨(List.replicate k 9).toArray⟩)
    rw [← repeatL_one]
set_option maxHeartbeats 40000000 in
set_option maxRecDepth 100000 in
theorem tabs_c {w0 w : World} {B g k : Nat} {s : ByteArray} (h : St w0 B g (some k) s w) (hk : k ≤ 2097152) (hm : s.size + k ≤ 140737488355328) :
    Calls Tryz.prog 42 #[.pointer (some ⟨g, 0, none⟩)] w fun e w' => e = .returned (.tuple #[]) ∧ St w0 B g (some k) (s ++ tabsS k) w' ∧ Wf g w w' := by
  have c2 : w.cell? ⟨g, 2, none⟩ = some (.int .i64 k) := by
    obtain ⟨hB, p, v, hp, hg, hown, he⟩ := h.wr
    exact Lib.cell_of_heap hg 2
  go_enter Tryz.func42, Tryz.ntmps42
  go_wp2_with (first
    | (go_at_call 53; refine (repeat_c k hk).mono ?_; rintro e w1 ⟨rfl, hb1⟩)
    | (go_at_call 27; refine (add1_c (h.below hb1) _ ?hm).mono ?_; (case hm => (rw [tabsS_size]; exact hm)); rintro e w2 ⟨rfl, h2, hf2⟩))
  go_end0
  exact ⟨rfl, h2, (Wf.below hb1).trans hf2⟩
end Go.Proofs.YtjdeomenioagdaaGreatDoor
