/- The writer: what it holds, and how a text is added. -/
import Derived.Test.YtjdeomenioagdaaGreatDoorBlock
import Derived.Maps.AppendAt
import Derived.Lib.Builder
import Derived.Lib.AppendStr
import Derived.Lib.UnsafeStr
import Derived.Defers
set_option linter.unusedVariables false
set_option linter.unusedSimpArgs false
namespace Go.Proofs.YtjdeomenioagdaaGreatDoor
open Go.RowKit
/-- The bytes' cells. -/
abbrev strC (s : ByteArray) : List Value := Lib.strCells s
theorem strC_append (a b : ByteArray) : strC (a ++ b) = strC a ++ strC b := by
  simp [strC, Lib.strCells]
theorem info_writer : ∃ j, Tryz.prog.info? 48 = some j ∧ j.size = 2 := by
  have : (Tryz.prog.info? 48).map (·.size) = some 2 := by kernel_rfl
  exact Option.map_eq_some_iff.1 this
theorem lies_writer : liesAt Tryz.prog Tryz.prog.depth 50 (3 / Tryz.prog.cellsOf 50) 0 48 1 = true := by kernel_rfl
theorem lies_builder : liesAt Tryz.prog Tryz.prog.depth 48 (2 / Tryz.prog.cellsOf 48) 0 48 1 = true := by kernel_rfl
set_option maxHeartbeats 40000000 in
set_option maxRecDepth 100000 in
theorem check_nil (g T : Nat) (cs : Array Value) (w : World) (h : w.heap[g]? = some (.cells cs T (0, 0))) (h0 : cs[0]? = some (.pointer none)) (hk : 0 < cs.size) (hl : liesAt Tryz.prog Tryz.prog.depth T (cs.size / Tryz.prog.cellsOf T) 0 48 1 = true) :
    Calls Tryz.prog 51 #[.pointer (some ⟨g, 0, none⟩)] w fun e w' => e = .returned (.tuple #[]) ∧ w' = w.setCell ⟨g, 0, none⟩ (.pointer (some ⟨g, 0, none⟩)) := by
  obtain ⟨j, hj, hjs⟩ := info_writer
  have t1 : Tryz.prog.underlying 45 = some (.pointer 48) := by kernel_rfl
  have t2 : Tryz.prog.underlying 73 = some .unsafePointer := by kernel_rfl
  have c0 : w.cell? ⟨g, 0, none⟩ = some (.pointer none) := by rw [Lib.cell_of_heap h 0]; exact h0
  have f0 : w.frozen? ⟨g, 0, none⟩ = false := Lib.frozen_of_heap h 0
  have hsh : w.shape? g = some (T, cs.size) := by simp [World.shape?, h]
  clear h h0
  go_enter Tryz.func51, Tryz.ntmps51
  go_wp2
  rw [Lib.run_to_unsafe w ⟨g, 0, none⟩ t1 t2 hj (by rw [hjs]; decide) hsh hk]
  simp only [Result.andThen]
  rw [Oper.upon_value]
  go_wp2
  rw [run_callFunc_extern Tryz.func67 (by kernel_rfl) (by kernel_rfl) (by kernel_rfl) (e := Extern.AbiNoEscape.same) (by kernel_rfl)]
  rw [Lib.run_noEscape]
  simp only [Result.andThen]
  rw [Oper.upon_value]
  go_wp2
  rw [Lib.run_from_unsafe w ⟨g, 0, none⟩ t2 t1 hj hsh hl]
  simp only [Result.andThen]
  rw [Oper.upon_value]
  go_wp2
  go_end0
  exact ⟨rfl, rfl⟩
set_option maxHeartbeats 40000000 in
set_option maxRecDepth 100000 in
theorem check_self (g T : Nat) (cs : Array Value) (w : World) (h : w.heap[g]? = some (.cells cs T (0, 0))) (h0 : cs[0]? = some (.pointer (some ⟨g, 0, none⟩))) :
    Calls Tryz.prog 51 #[.pointer (some ⟨g, 0, none⟩)] w fun e w' => e = .returned (.tuple #[]) ∧ w' = w := by
  obtain ⟨j, hj, hjs⟩ := info_writer
  have t1 : Tryz.prog.underlying 45 = some (.pointer 48) := by kernel_rfl
  have t2 : Tryz.prog.underlying 73 = some .unsafePointer := by kernel_rfl
  have c0 : w.cell? ⟨g, 0, none⟩ = some (.pointer (some ⟨g, 0, none⟩)) := by rw [Lib.cell_of_heap h 0]; exact h0
  have f0 : w.frozen? ⟨g, 0, none⟩ = false := Lib.frozen_of_heap h 0
  have hsh : w.shape? g = some (T, cs.size) := by simp [World.shape?, h]
  clear h h0
  go_enter Tryz.func51, Tryz.ntmps51
  go_wp2
  rw [Lib.run_neq_ptr_same w _ t1 hj]
  go_wp2
  go_end0
  exact ⟨rfl, rfl⟩
/-- The block of a builder: of a writer d tabs deep, or by itself. -/
def wrow (p v : Value) : Option Int → Array Value
  | some d => #[p, v, .int .i64 d]
  | none => #[p, v]
def wtype : Option Int → Nat
  | some _ => 50
  | none => 48
theorem wtype_ne (d : Option Int) : wtype d ≠ 5 := by cases d <;> simp [wtype]
theorem wrow0 (p v : Value) (d : Option Int) : (wrow p v d)[0]? = some p := by cases d <;> rfl
theorem wrow1 (p v : Value) (d : Option Int) : (wrow p v d)[1]? = some v := by cases d <;> rfl
theorem wrow_set0 (p v q : Value) (d : Option Int) : (wrow p v d).setIfInBounds 0 q = wrow q v d := by cases d <;> rfl
theorem wrow_set1 (p v q : Value) (d : Option Int) : (wrow p v d).setIfInBounds 1 q = wrow p q d := by cases d <;> rfl
theorem wrow_pos (p v : Value) (d : Option Int) : 0 < (wrow p v d).size := by cases d <;> simp [wrow]
theorem wrow_lies (p v : Value) (d : Option Int) : liesAt Tryz.prog Tryz.prog.depth (wtype d) ((wrow p v d).size / Tryz.prog.cellsOf (wtype d)) 0 48 1 = true := by
  cases d
  · exact lies_builder
  · exact lies_writer
theorem setCell_row {w : World} {g : Nat} {cs : Array Value} {T : TypeId} (h : w.heap[g]? = some (.cells cs T (0, 0))) (j : Nat) (u : Value) : (w.setCell ⟨g, j, none⟩ u).heap[g]? = some (.cells (cs.setIfInBounds j u) T (0, 0)) := by
  simp [World.setCell, Array.getElem?_modify, h]
/-- What a call of the writer leaves alone: all blocks but the writer's own and rows of bytes. -/
structure Wf (g : Nat) (w w' : World) : Prop where
  size : w.heap.size ≤ w'.heap.size
  keep : ∀ b o, w.heap[b]? = some o → b ≠ g → (∀ cs fr, o ≠ .cells cs 5 fr) → w'.heap[b]? = some o
theorem Wf.refl (g : Nat) (w : World) : Wf g w w := ⟨Nat.le_refl _, fun _ _ h _ _ => h⟩
theorem Wf.trans {g : Nat} {a b c : World} (h : Wf g a b) (k : Wf g b c) : Wf g a c :=
  ⟨Nat.le_trans h.size k.size, fun i o ho hg hn => k.keep i o (h.keep i o ho hg hn) hg hn⟩
theorem Wf.alloc {g : Nat} {a b : World} (h : Wf g a b) (o : Obj) : Wf g a (b.alloc o) :=
  ⟨by have := h.size; simp; omega, fun i x hx hg hn => by
    have h1 := h.keep i x hx hg hn
    rw [Lib.alloc_old b o i ((Array.getElem?_eq_some_iff.1 h1).1)]; exact h1⟩
theorem Wf.drew {g : Nat} {a b : World} (h : Wf g a b) : Wf g a b.drew := ⟨h.size, h.keep⟩
theorem Wf.set_ {g : Nat} {a b : World} (h : Wf g a b) (j : Nat) (u : Value) : Wf g a (b.setCell ⟨g, j, none⟩ u) :=
  ⟨by simpa [World.setCell] using h.size, fun i x hx hg hn => by
    have h1 := h.keep i x hx hg hn
    rw [Below.heap_setCell b ⟨g, j, none⟩ u i hg]; exact h1⟩
/-- The writer in block g (from B on), d tabs deep, with the text s written. -/
def Wr (B g : Nat) (d : Option Int) (s : ByteArray) (w : World) : Prop :=
  B ≤ g ∧ ∃ p v, (p = .pointer none ∨ p = .pointer (some ⟨g, 0, none⟩)) ∧ w.heap[g]? = some (.cells (wrow p v d) (wtype d) (0, 0)) ∧ w.ownsRow B 5 1 v s.size (strC s) ∧ (s.size = 0 → v = .slice none 0 0)
structure St (w0 : World) (B g : Nat) (d : Option Int) (s : ByteArray) (w : World) : Prop where
  ro : Ro w0 B w
  wr : Wr B g d s w
theorem St.drew {w0 w : World} {B g : Nat} {d : Option Int} {s : ByteArray} (h : St w0 B g d s w) : St w0 B g d s w.drew := ⟨h.ro.drew, h.wr⟩
theorem St.alloc {w0 w : World} {B g : Nat} {d : Option Int} {s : ByteArray} (h : St w0 B g d s w) (o : Obj) : St w0 B g d s (w.alloc o) := by
  refine ⟨h.ro.alloc o, ?_⟩
  obtain ⟨hB, p, v, hp, hg, hown, he⟩ := h.wr
  refine ⟨hB, p, v, hp, ?_, hown.alloc o, he⟩
  rw [Lib.alloc_old w o g ((Array.getElem?_eq_some_iff.1 hg).1)]
  exact hg
/-- Behind copyCheck. -/
structure Chk (w0 : World) (B g : Nat) (d : Option Int) (s : ByteArray) (v : Value) (w w' : World) : Prop where
  ro : Ro w0 B w'
  hg : w'.heap[g]? = some (.cells (wrow (.pointer (some ⟨g, 0, none⟩)) v d) (wtype d) (0, 0))
  own : w'.ownsRow B 5 1 v s.size (strC s)
  kp : Wf g w w'
theorem check_c {w0 w : World} {B g : Nat} {d : Option Int} {s : ByteArray} {p v : Value} (hB : B ≤ g) (hr : Ro w0 B w) (hp : p = .pointer none ∨ p = .pointer (some ⟨g, 0, none⟩)) (hg : w.heap[g]? = some (.cells (wrow p v d) (wtype d) (0, 0)))
    (hown : w.ownsRow B 5 1 v s.size (strC s)) :
    Calls Tryz.prog 51 #[.pointer (some ⟨g, 0, none⟩)] w fun e w' => e = .returned (.tuple #[]) ∧ Chk w0 B g d s v w w' := by
  rcases hp with rfl | rfl
  · refine (check_nil g _ _ w hg (wrow0 _ _ _) (wrow_pos _ _ _) (wrow_lies _ _ _)).mono ?_
    rintro e w' ⟨rfl, rfl⟩
    refine ⟨rfl, hr.set_ (p := ⟨g, 0, none⟩) hB _, ?_, ?_, (Wf.refl g w).set_ 0 _⟩
    · rw [setCell_row hg 0, wrow_set0]
    · refine hown.kept (row := some g) ⟨rfl, rfl, rfl, by simp [World.setCell], fun k _ hk => Below.heap_setCell _ _ _ _ (fun e => hk (by simp [e]))⟩ ?_
      exact Or.inr (Lib.ownBlock_ne hown hg (wtype_ne d))
  · refine (check_self g _ _ w hg (wrow0 _ _ _)).mono ?_
    rintro e w' ⟨rfl, rfl⟩
    exact ⟨rfl, hr, hg, hown, Wf.refl g _⟩
theorem info_byte : ∃ i, Tryz.prog.info? 5 = some i ∧ i.zero = some (.int .u8 0) ∧ i.size = 1 ∧ i.bytes = 1 := by
  have h : (Tryz.prog.info? 5).map (fun i => (i.zero, i.size, i.bytes)) = some (some (.int .u8 0), 1, 1) := by kernel_rfl
  obtain ⟨i, hi, he⟩ := Option.map_eq_some_iff.1 h
  simp only [Prod.mk.injEq] at he
  exact ⟨i, hi, he⟩
set_option maxHeartbeats 40000000 in
set_option maxRecDepth 100000 in
theorem writestring_c {w0 w : World} {B g : Nat} {d : Option Int} {s : ByteArray} (h : St w0 B g d s w) (u : ByteArray) (hm : s.size + u.size ≤ 140737488355328) :
    Calls Tryz.prog 40 #[.pointer (some ⟨g, 0, none⟩), .string u] w fun e w' => e = .returned (.tuple #[.int .i64 u.size, .nilIface]) ∧ St w0 B g d (s ++ u) w' ∧ Wf g w w' := by
  obtain ⟨i0, hi, hz0, hz1, hz2⟩ := info_byte
  obtain ⟨hr, hB, p, v, hp, hg, hown, he⟩ := h
  have t37 : Tryz.prog.underlying 46 = some (.slice 5) := by kernel_rfl
  have t9 : Tryz.prog.underlying 9 = some .string := by kernel_rfl
  go_enter Tryz.func40, Tryz.ntmps40
  go_wp2_with (go_at_call 51; refine (check_c (s := s) hB hr hp hg hown).mono ?_)
  rintro e w1 ⟨rfl, hr1, hg1, hown1, hk1⟩
  have c0 : w1.cell? ⟨g, 0, none⟩ = some (.pointer (some ⟨g, 0, none⟩)) := (Lib.cell_of_heap hg1 0).trans (wrow0 _ _ _)
  have c1 : w1.cell? ⟨g, 1, none⟩ = some v := (Lib.cell_of_heap hg1 1).trans (wrow1 _ _ _)
  go_wp2_with (at_builtin; refine Lib.wpList_append_own_string _ rfl _ _ 46 9 rfl B 5 i0 t37 t9 hi hz0 hz1 hz2 _ _ _ rfl hown1 u rfl ?c3 ?c4 ?c5 ?_)
  case c3 => unfold maxLen; omega
  case c4 => omega
  case c5 => have := hr1.size; omega
  intro v' w2 hown' hgrow hnil
  have hlt : g < w1.heap.size := (Array.getElem?_eq_some_iff.1 hg1).1
  have hne : v.ownBlock ≠ some g := Lib.ownBlock_ne hown1 hg1 (wtype_ne d)
  have hb2 : w2.heap[g]? = some (.cells (wrow (.pointer (some ⟨g, 0, none⟩)) v d) (wtype d) (0, 0)) := by
    rw [hgrow.block g hlt (fun e => hne e.symm)]
    exact hg1
  have d0 : w2.cell? ⟨g, 0, none⟩ = some (.pointer (some ⟨g, 0, none⟩)) := (Lib.cell_of_heap hb2 0).trans (wrow0 _ _ _)
  have d1 : w2.cell? ⟨g, 1, none⟩ = some v := (Lib.cell_of_heap hb2 1).trans (wrow1 _ _ _)
  have f1 : w2.frozen? ⟨g, 1, none⟩ = false := Lib.frozen_of_heap hb2 1
  have hw2 : Wf g w1 w2 := by
    refine ⟨hgrow.size, fun i o ho hig hno => ?_⟩
    rw [hgrow.block i ((Array.getElem?_eq_some_iff.1 ho).1) ?_]
    · exact ho
    · intro e
      rcases hown1.2 with ⟨rfl, _⟩ | ⟨q, cap, cur, rfl, _, hq, _⟩
      · simp [Value.ownBlock] at e
      · simp only [Value.ownBlock, Option.some.injEq] at e
        subst e
        rw [hq] at ho
        exact hno _ _ (Option.some.inj ho).symm
  have hr2 : Ro w0 B w2 := ⟨hr1.below.grown hgrow hr1.size (fun k hk => (hown1.lt k hk).1), by have := hr1.size; have := hgrow.size; omega⟩
  obtain ⟨ao, n', cap, hv'⟩ : ∃ ao n' cap, v' = .slice ao n' cap := by
    rcases hown'.2 with ⟨hv, _⟩ | ⟨q, cap, cur, hv, _⟩
    · exact ⟨_, _, _, hv⟩
    · exact ⟨_, _, _, hv⟩
  subst hv'
  go_wp2
  go_ret2
  refine ⟨rfl, ⟨hr2.set_ (p := ⟨g, 1, none⟩) hB _, hB, _, (.slice ao n' cap), .inr rfl, ?_, ?_, ?_⟩, (hk1.trans hw2).set_ 1 _⟩
  · rw [setCell_row hb2 1, wrow_set1]
  · rw [ByteArray.size_append, strC_append]
    refine hown'.kept (row := some g) ⟨rfl, rfl, rfl, by simp [World.setCell], fun k _ hk => Below.heap_setCell _ _ _ _ (fun e => hk (by simp [e]))⟩ ?_
    exact Or.inr (Lib.ownBlock_ne hown' hb2 (wtype_ne d))
  · intro h0
    rw [ByteArray.size_append] at h0
    exact hnil.2 ⟨he (by omega), ByteArray.size_eq_zero_iff.1 (by omega)⟩
theorem arr_eq (s : ByteArray) : (⟨s.data.toList.toArray⟩ : ByteArray) = s := by cases s; simp
set_option maxHeartbeats 40000000 in
set_option maxRecDepth 100000 in
theorem string_c {w0 w : World} {B g : Nat} {d : Option Int} {s : ByteArray} (h : St w0 B g d s w) :
    Calls Tryz.prog 29 #[.pointer (some ⟨g, 0, none⟩)] w fun e w' => e = .returned (.string s) ∧ Ro w0 B w' := by
  obtain ⟨hr, hB, p, v, hp, hgk, hown, he⟩ := h
  have t37 : Tryz.prog.underlying 46 = some (.slice 5) := by kernel_rfl
  have t64 : Tryz.prog.underlying 64 = some (.pointer 5) := by kernel_rfl
  by_cases h0 : s.size = 0
  · obtain rfl := he h0
    have hs : s = .empty := ByteArray.size_eq_zero_iff.1 h0
    subst hs
    have c1 : w.drew.cell? ⟨g, 1, none⟩ = some (.slice none 0 0) := (Lib.cell_of_heap (w := w.drew) hgk 1).trans (wrow1 _ _ _)
    have hSD : (Builtin.unsafeSliceData_ #[46] 64 #[.slice none 0 0]).run Tryz.prog w.drew = .ok (.pointer none) w.drew := rfl
    have hUS := fun W q => Lib.run_unsafeString_none (P := Tryz.prog) W 64 3 9 q
    go_enter Tryz.func29, Tryz.ntmps29
    go_wp2
    go_region
    all_goals (go_wp2; go_ret; exact ⟨rfl, hr.drew⟩)
  · obtain ⟨q, cap, cur, rfl, hbg, hg, hnc, hcm, hcs, htake⟩ : ∃ g cap cur, v = .slice (some ⟨g, 0, none⟩) s.size cap ∧ B ≤ g ∧ w.heap[g]? = some (.cells cur 5 (0, 0)) ∧ s.size ≤ cap ∧ cap ≤ maxLen ∧ cur.size = cap * 1 ∧ cur.toList.take (s.size * 1) = strC s := by
      rcases hown.2 with ⟨_, hz⟩ | ⟨g, cap, cur, hv, r⟩
      · exact absurd hz h0
      · exact ⟨g, cap, cur, hv, r⟩
    have hsl : s.data.toList.length = s.size := Array.length_toList
    have hn0 : s.data.toList ≠ [] := by
      intro e
      rw [e] at hsl
      exact h0 hsl.symm
    have c1 : w.drew.cell? ⟨g, 1, none⟩ = some (.slice (some ⟨q, 0, none⟩) s.size cap) := (Lib.cell_of_heap (w := w.drew) hgk 1).trans (wrow1 _ _ _)
    have hSD : (Builtin.unsafeSliceData_ #[46] 64 #[.slice (some ⟨q, 0, none⟩) s.size cap]).run Tryz.prog w.drew = .ok (.pointer (some ⟨q, 0, none⟩)) w.drew :=
      Lib.run_unsafeSliceData_row _ _ _ _ _ _ (by omega)
    have hUS : (Builtin.unsafeString_ #[64, 3] 9 #[.pointer (some ⟨q, 0, none⟩), .int .i64 s.size]).run Tryz.prog w.drew = .ok (.string s) (w.drew.freeze ⟨q, 0, none⟩ s.size) := by
      have := Lib.run_unsafeString_row (P := Tryz.prog) w.drew 64 3 9 5 t64 (by kernel_rfl) q cur.size (by have hg' : w.drew.heap[q]? = some (.cells cur 5 (0, 0)) := hg; simp [World.shape?, hg']) s.data.toList hn0 (by omega) (by unfold maxLen at hcm; omega) (by
        intro j x hx
        have := hown.cells (g := q) rfl j (.int .u8 x.toNat) (by simp [strC, Lib.strCells, hx])
        exact this)
      rw [hsl, arr_eq] at this
      exact this
    go_enter Tryz.func29, Tryz.ntmps29
    go_wp2
    go_region
    all_goals (go_wp2; go_ret; exact ⟨rfl, ⟨Lib.below_freeze hr.below.drew (p := ⟨q, 0, none⟩) hbg _, by have := (Lib.below_freeze (Below.drew (Below.refl B w)) (p := ⟨q, 0, none⟩) hbg s.size).size; have := hr.size; omega⟩⟩)
def partsS : List ByteArray → ByteArray
  | [] => .empty
  | a :: r => a ++ partsS r
theorem partsS_append (a b : List ByteArray) : partsS (a ++ b) = partsS a ++ partsS b := by
  induction a with
  | nil => simp [partsS]
  | cons x r ih => simp [partsS, ih, ByteArray.append_assoc]
theorem partsS_take (l : List ByteArray) (k : Nat) (h : k < l.length) : partsS (l.take (k + 1)) = partsS (l.take k) ++ l[k] := by
  rw [List.take_add_one, List.getElem?_eq_getElem h, partsS_append]
  simp [partsS]
theorem partsS_size (l : List ByteArray) (k : Nat) : (partsS (l.take k)).size ≤ (partsS l).size := by
  have := congrArg (fun l => (partsS l).size) (List.take_append_drop k l)
  simp only [partsS_append, ByteArray.size_append] at this
  omega
set_option maxHeartbeats 40000000 in
set_option maxRecDepth 100000 in
theorem add_c {w0 W : World} {B g q : Nat} {d : Option Int} {s : ByteArray} (h : St w0 B g d s W) (l : List ByteArray) (hq : W.heap[q]? = some (.cells (l.map Value.string).toArray 9 (0, 0))) (hqg : q ≠ g) (hl : l.length ≤ 1000) (hm : s.size + (partsS l).size ≤ 140737488355328) :
    Calls Tryz.prog 27 #[.pointer (some ⟨g, 0, none⟩), .slice (some ⟨q, 0, none⟩) l.length l.length] W fun e w' => e = .returned (.tuple #[]) ∧ St w0 B g d (s ++ partsS l) w' ∧ Wf g W w' := by
  have E : Hid (∀ w : World, Wf g W w → ∀ i (hi : i < l.length), w.cell? ⟨q, i, none⟩ = some (.string l[i])) := by
    intro w hw i hi
    have h1 := hw.keep q _ hq hqg (fun cs fr e => by injection e with _ e _; exact absurd e (by decide))
    have := Lib.cell_of_heap h1 i
    rw [this]
    simp [hi]
  go_enter Tryz.func27, Tryz.ntmps27
  go_wp2
  go_loopw [5, 8] (fun _ u w => ∃ k : Nat, k ≤ l.length ∧ u = .int .i64 k ∧ St w0 B g d (s ++ partsS (l.take k)) w ∧ Wf g W w) (fun _ u _ => (l.length - (intOf u).toNat : Nat))
  case atStart => exact ⟨0, by omega, rfl, by simpa [partsS] using h, Wf.refl g W⟩
  case round =>
    obtain ⟨k, hkl, rfl, hst, hwf⟩ := hrel
    by_cases hlt : k < l.length
    · have hcell := E.out wr hwf k hlt
      have hz := partsS_size l (k + 1)
      have hN := partsS_take l k hlt
      rw [hN, ByteArray.size_append] at hz
      have HC : Hid (Calls Tryz.prog 40 #[.pointer (some ⟨g, 0, none⟩), .string l[k]] wr fun e w' => e = .returned (.tuple #[.int .i64 l[k].size, .nilIface]) ∧ St w0 B g d (s ++ partsS (l.take k) ++ l[k]) w' ∧ Wf g wr w') := writestring_c hst l[k] (by rw [ByteArray.size_append]; omega)
      rw [ByteArray.append_assoc, ← hN] at HC
      generalize l[k] = x at hcell HC
      clear hN hz hst
      go_wp2_with ((with_reducible refine HC.out.mono ?_); rintro e w' ⟨rfl, hst', hwf'⟩)
      exact ⟨⟨k + 1, by omega, by go_num, hst', hwf.trans hwf'⟩, by simp [intOf]; omega⟩
    · have hk : k = l.length := by omega
      subst hk
      rw [List.take_length] at hst
      go_wp2
      go_end0
      exact ⟨rfl, hst, hwf⟩
set_option maxHeartbeats 40000000 in
set_option maxRecDepth 100000 in
theorem add_d {w0 W : World} {B g q : Nat} {d : Option Int} {s : ByteArray} (h : St w0 B g d s W) (l : List ByteArray) (hq : W.heap[q]? = some (.cells (l.map Value.string).toArray 9 (0, 0))) (hqg : q ≠ g) (hl : l.length ≤ 1000) (hm : s.size + (partsS l).size ≤ 140737488355328) :
    CallsD Tryz.prog 27 #[.pointer (some ⟨g, 0, none⟩), .slice (some ⟨q, 0, none⟩) l.length l.length] .returning W fun e u' w' => u' = .returning ∧ e = .returned (.tuple #[]) ∧ St w0 B g d (s ++ partsS l) w' ∧ Wf g W w' := by
  have E : Hid (∀ w : World, Wf g W w → ∀ i (hi : i < l.length), w.cell? ⟨q, i, none⟩ = some (.string l[i])) := by
    intro w hw i hi
    have h1 := hw.keep q _ hq hqg (fun cs fr e => by injection e with _ e _; exact absurd e (by decide))
    have := Lib.cell_of_heap h1 i
    rw [this]
    simp [hi]
  go_enter_d Tryz.func27, Tryz.ntmps27
  go_wp2
  go_loopw [5, 8] (fun _ u w => ∃ k : Nat, k ≤ l.length ∧ u = .int .i64 k ∧ St w0 B g d (s ++ partsS (l.take k)) w ∧ Wf g W w) (fun _ u _ => (l.length - (intOf u).toNat : Nat))
  case atStart => exact ⟨0, by omega, rfl, by simpa [partsS] using h, Wf.refl g W⟩
  case round =>
    obtain ⟨k, hkl, rfl, hst, hwf⟩ := hrel
    by_cases hlt : k < l.length
    · have hcell := E.out wr hwf k hlt
      have hz := partsS_size l (k + 1)
      have hN := partsS_take l k hlt
      rw [hN, ByteArray.size_append] at hz
      have HC : Hid (Calls Tryz.prog 40 #[.pointer (some ⟨g, 0, none⟩), .string l[k]] wr fun e w' => e = .returned (.tuple #[.int .i64 l[k].size, .nilIface]) ∧ St w0 B g d (s ++ partsS (l.take k) ++ l[k]) w' ∧ Wf g wr w') := writestring_c hst l[k] (by rw [ByteArray.size_append]; omega)
      rw [ByteArray.append_assoc, ← hN] at HC
      generalize l[k] = x at hcell HC
      clear hN hz hst
      go_wp2_with ((with_reducible refine HC.out.mono ?_); rintro e w' ⟨rfl, hst', hwf'⟩)
      exact ⟨⟨k + 1, by omega, by go_num, hst', hwf.trans hwf'⟩, by simp [intOf]; omega⟩
    · have hk : k = l.length := by omega
      subst hk
      rw [List.take_length] at hst
      go_wp2
      go_end0
      exact ⟨rfl, hst, hwf⟩
end Go.Proofs.YtjdeomenioagdaaGreatDoor
