/- Statements are written, by the program. -/
import Derived.Test.YtjdeomenioagdaaGreatDoorWclauses
import Derived.StillTailTactics
import Derived.Deep.RegionWith
set_option linter.unusedVariables false
set_option linter.unusedSimpArgs false
namespace Go.Proofs.YtjdeomenioagdaaGreatDoor
open Go.RowKit
def WStmtIH (w0 : World) (B g m : Nat) : Prop := ∀ n a (k : Nat), NodeAt w0 B a n → stmtB n = true → n.size ≤ m → k + n.size ≤ 2097152 → Adds 52 w0 B g (some (k : Int)) a (rowS n k)
theorem block_kids {b : Node} (h : blockB b = true) : ∀ i (hi : i < b.kids.length), stmtB b.kids[i] = true := by
  rw [blockB_eq, Bool.and_eq_true, stmtsB_all] at h
  exact fun i hi => List.all_eq_true.1 h.2 _ (List.getElem_mem hi)
theorem wblock_ih {w0 : World} {B g m : Nat} {a : Addr} {b : Node} {k : Nat} (ih : WStmtIH w0 B g m) (hn : NodeAt w0 B a b) (hb : blockB b = true) (hs : b.size ≤ m + 1) (hk : k + b.size ≤ 2097152) : Adds 28 w0 B g (some (k : Int)) a (blockS b k) := by
  intro s w h hm
  have hp := b.size_pos
  refine wblock_c hn (by omega) (fun A c hkk ad hA i hi => ?_) h hm
  have := b.size_kid (List.getElem_mem hi)
  exact ih _ _ _ (hkk.at_ ad hA i hi) (block_kids hb i hi) (by omega) (by omega)
theorem lastis_ih {w0 : World} {B g m : Nat} {n : Node} {k : Nat} {A : Option Addr} {c : Nat} (ih : WStmtIH w0 B g m) (hk : KidsAt w0 B A n.kids c) (hb : lastB n.kids = true) (hs : n.size ≤ m + 1) (hkd : k + n.size ≤ 2097152) : LastIs w0 B g k n A := by
  intro ad hA q hq
  have hq1 : q < n.kids.length := by omega
  have hkn := hk.at_ ad hA q hq1
  have hbk : blockB n.kids[q] = true := by
    rw [lastB_eq, List.getLast?_eq_getElem?, hq] at hb
    simpa [hq1] using hb
  have hsz := n.size_kid (List.getElem_mem hq1)
  have hE : bodyAt n k = linesS (k + 1) (n.kids[q].kids.map (rowS · (k + 1))) := by
    have e : n.kids.length - 1 = q := by omega
    simp only [bodyAt, strAt, e]
    rw [List.getElem?_map, List.getElem?_eq_getElem hq1]
    show bodyS n.kids[q] (k + 1) = _
    rw [bodyS_eq]
  rw [hE]
  generalize n.kids[q] = b at hkn hbk hsz
  obtain ⟨A', c', xb, x0, x1, x2, x3, x7, hkk⟩ := hkn.open_
  refine ⟨A', c', b.kids.length, x7, xb, fun s w h hm => ?_⟩
  refine lines_c hkk (by omega) (fun ad hA i hi => ?_) h hm
  have := b.size_kid (List.getElem_mem hi)
  exact ih _ _ _ (hkk.at_ ad hA i hi) (block_kids hbk i hi) (by omega) (by omega)
set_option maxHeartbeats 40000000 in
set_option maxRecDepth 100000 in
theorem ws_block {w0 w : World} {B g m k : Nat} {s : ByteArray} {a : Addr} {n : Node} (he : Env w0 B) (ih : WStmtIH w0 B g m) (hn : NodeAt w0 B a n) (hms : n.size ≤ m + 1) (hkd : k + n.size ≤ 2097152) (hB : stmtB n = true) (h0 : n.kind = 4) (h : St w0 B g (some (k : Int)) s w) (hm : s.size + (rowS n k).size ≤ 140737488355328) :
    Calls Tryz.prog 52 #[.pointer (some ⟨g, 0, none⟩), .pointer (some a)] w fun e w' => e = .returned (.tuple #[]) ∧ St w0 B g (some (k : Int)) (s ++ rowS n k) w' ∧ Wf g w w' := by
  obtain ⟨A, c, hb, c0, c1, c2, c3, c7, hk⟩ := hn.open_
  have hr := h.ro
  have hc := hr.cell
  have hl := hk.le
  have hl' := hk.le'
  have hz := hr.lt hb
  have hbl : blockB n = true := by unfold blockB; rw [h0, hB]; rfl
  have HB := wblock_ih ih hn hbl hms hkd
  have E : rowS n k = blockS n k := by rw [rowS_eq, blockS_eq]; simp [h0]
  have HM := hm
  rw [E] at HM
  have E := Lib.hid E
  clear hm hB ih hkd
  go_enter Tryz.func52, Tryz.ntmps52
  go_wp2_with (first
    | (go_at_call 28; (with_reducible refine (HB _ _ h ?hm).mono ?_); (case hm => ((try simp only [ByteArray.size_append] at HM ⊢); (try simp only [ByteArray.size, str, List.size_toArray, List.length_cons, List.length_nil] at HM ⊢); omega)); rintro e w1 ⟨rfl, h1, hf1⟩; have hc1 := h1.ro.cell))
  go_end0
  exact ⟨rfl, by rw [E.out]; simpa only [ByteArray.append_assoc, ByteArray.append_empty, ByteArray.empty_append, str] using h1, hf1⟩
set_option maxHeartbeats 40000000 in
set_option maxRecDepth 100000 in
theorem ws_break {w0 w : World} {B g m k : Nat} {s : ByteArray} {a : Addr} {n : Node} (he : Env w0 B) (ih : WStmtIH w0 B g m) (hn : NodeAt w0 B a n) (hms : n.size ≤ m + 1) (hkd : k + n.size ≤ 2097152) (hB : stmtB n = true) (h0 : n.kind = 19) (h : St w0 B g (some (k : Int)) s w) (hm : s.size + (rowS n k).size ≤ 140737488355328) :
    Calls Tryz.prog 52 #[.pointer (some ⟨g, 0, none⟩), .pointer (some a)] w fun e w' => e = .returned (.tuple #[]) ∧ St w0 B g (some (k : Int)) (s ++ rowS n k) w' ∧ Wf g w w' := by
  obtain ⟨A, c, hb, c0, c1, c2, c3, c7, hk⟩ := hn.open_
  have hr := h.ro
  have hc := hr.cell
  have hl := hk.le
  have hl' := hk.le'
  have hz := hr.lt hb
  have E : rowS n k = str [98, 114, 101, 97, 107] := by rw [rowS_eq]; simp [h0]
  have HM := hm
  rw [E] at HM
  have E := Lib.hid E
  clear hm hB ih hkd
  go_enter Tryz.func52, Tryz.ntmps52
  go_wp2_with (first
    | (go_at_call 27; (with_reducible refine (add1_c h _ ?hm).mono ?_); (case hm => ((try simp only [ByteArray.size_append] at HM ⊢); (try simp only [ByteArray.size, str, List.size_toArray, List.length_cons, List.length_nil] at HM ⊢); omega)); rintro e w1 ⟨rfl, h1, hf1⟩; have hc1 := h1.ro.cell))
  go_end0
  exact ⟨rfl, by rw [E.out]; simpa only [ByteArray.append_assoc, ByteArray.append_empty, ByteArray.empty_append, str] using h1, hf1⟩
set_option maxHeartbeats 40000000 in
set_option maxRecDepth 100000 in
theorem ws_continue {w0 w : World} {B g m k : Nat} {s : ByteArray} {a : Addr} {n : Node} (he : Env w0 B) (ih : WStmtIH w0 B g m) (hn : NodeAt w0 B a n) (hms : n.size ≤ m + 1) (hkd : k + n.size ≤ 2097152) (hB : stmtB n = true) (h0 : n.kind = 20) (h : St w0 B g (some (k : Int)) s w) (hm : s.size + (rowS n k).size ≤ 140737488355328) :
    Calls Tryz.prog 52 #[.pointer (some ⟨g, 0, none⟩), .pointer (some a)] w fun e w' => e = .returned (.tuple #[]) ∧ St w0 B g (some (k : Int)) (s ++ rowS n k) w' ∧ Wf g w w' := by
  obtain ⟨A, c, hb, c0, c1, c2, c3, c7, hk⟩ := hn.open_
  have hr := h.ro
  have hc := hr.cell
  have hl := hk.le
  have hl' := hk.le'
  have hz := hr.lt hb
  have E : rowS n k = str [99, 111, 110, 116, 105, 110, 117, 101] := by rw [rowS_eq]; simp [h0]
  have HM := hm
  rw [E] at HM
  have E := Lib.hid E
  clear hm hB ih hkd
  go_enter Tryz.func52, Tryz.ntmps52
  go_wp2_with (first
    | (go_at_call 27; (with_reducible refine (add1_c h _ ?hm).mono ?_); (case hm => ((try simp only [ByteArray.size_append] at HM ⊢); (try simp only [ByteArray.size, str, List.size_toArray, List.length_cons, List.length_nil] at HM ⊢); omega)); rintro e w1 ⟨rfl, h1, hf1⟩; have hc1 := h1.ro.cell))
  go_end0
  exact ⟨rfl, by rw [E.out]; simpa only [ByteArray.append_assoc, ByteArray.append_empty, ByteArray.empty_append, str] using h1, hf1⟩
set_option maxHeartbeats 40000000 in
set_option maxRecDepth 100000 in
theorem ws_go {w0 w : World} {B g m k : Nat} {s : ByteArray} {a : Addr} {n : Node} (he : Env w0 B) (ih : WStmtIH w0 B g m) (hn : NodeAt w0 B a n) (hms : n.size ≤ m + 1) (hkd : k + n.size ≤ 2097152) (hB : stmtB n = true) (h0 : n.kind = 17) (h : St w0 B g (some (k : Int)) s w) (hm : s.size + (rowS n k).size ≤ 140737488355328) :
    Calls Tryz.prog 52 #[.pointer (some ⟨g, 0, none⟩), .pointer (some a)] w fun e w' => e = .returned (.tuple #[]) ∧ St w0 B g (some (k : Int)) (s ++ rowS n k) w' ∧ Wf g w w' := by
  obtain ⟨A, c, hb, c0, c1, c2, c3, c7, hk⟩ := hn.open_
  have hr := h.ro
  have hc := hr.cell
  have hl := hk.le
  have hl' := hk.le'
  have hz := hr.lt hb
  rw [stmtB_eq] at hB
  simp [h0] at hB
  have hB2 := hB.1.1
  obtain ⟨ad, rfl⟩ := hk.some_ (by omega)
  have hl0 : 0 < n.kids.length := by omega
  have HK := wexpr_c (g := g) (d := some (k : Int)) he (hk.at_ ad rfl 0 hl0) (by
    have h3 := kidB_spec hB.2 _ (List.getElem?_eq_getElem hl0)
    simp only [Bool.and_eq_true, beq_iff_eq] at h3
    rw [exprB_eq]
    simp [h3.1.1, h3.2])
  have E : rowS n k = str [103, 111, 32] ++ toldS n.kids[0] := by rw [rowS_eq]; simp [h0, strAt, hl0]
  generalize n.kids[0] = k0 at HK E
  simp only [Nat.zero_mul] at HK
  replace HK : Adds 68 w0 B g (some (k : Int)) ad (toldS k0) := HK
  have HH := Lib.hid hB2
  clear hB2
  have HM := hm
  rw [E] at HM
  have E := Lib.hid E
  clear hm hB ih hkd
  go_enter Tryz.func52, Tryz.ntmps52
  go_wp2_with (first
    | (go_at_call 27; (with_reducible refine (add1_c h _ ?hm).mono ?_); (case hm => ((try simp only [ByteArray.size_append] at HM ⊢); (try simp only [ByteArray.size, str, List.size_toArray, List.length_cons, List.length_nil] at HM ⊢); omega)); rintro e w1 ⟨rfl, h1, hf1⟩; have hc1 := h1.ro.cell)
    | (go_at_call 68; (with_reducible refine (HK _ _ h1 ?hm).mono ?_); (case hm => ((try simp only [ByteArray.size_append] at HM ⊢); (try simp only [ByteArray.size, str, List.size_toArray, List.length_cons, List.length_nil] at HM ⊢); omega)); rintro e w2 ⟨rfl, h2, hf2⟩; have hc2 := h2.ro.cell))
  go_end0
  exact ⟨rfl, by rw [E.out]; simpa only [ByteArray.append_assoc, ByteArray.append_empty, ByteArray.empty_append, str] using h2, hf1.trans (hf2)⟩
set_option maxHeartbeats 40000000 in
set_option maxRecDepth 100000 in
theorem ws_return {w0 w : World} {B g m k : Nat} {s : ByteArray} {a : Addr} {n : Node} (he : Env w0 B) (ih : WStmtIH w0 B g m) (hn : NodeAt w0 B a n) (hms : n.size ≤ m + 1) (hkd : k + n.size ≤ 2097152) (hB : stmtB n = true) (h0 : n.kind = 18) (h : St w0 B g (some (k : Int)) s w) (hm : s.size + (rowS n k).size ≤ 140737488355328) :
    Calls Tryz.prog 52 #[.pointer (some ⟨g, 0, none⟩), .pointer (some a)] w fun e w' => e = .returned (.tuple #[]) ∧ St w0 B g (some (k : Int)) (s ++ rowS n k) w' ∧ Wf g w w' := by
  obtain ⟨A, c, hb, c0, c1, c2, c3, c7, hk⟩ := hn.open_
  have hr := h.ro
  have hc := hr.cell
  have hl := hk.le
  have hl' := hk.le'
  have hz := hr.lt hb
  rw [stmtB_eq] at hB
  simp [h0] at hB
  have hall := exprs_all hB.1.1
  rcases (by omega : n.kids.length = 0 ∨ n.kids.length = 1) with hl0 | hl0
  · have hq : ((n.kids.length : Int) == 1) = false := by rw [beq_eq_false_iff_ne]; omega
    have E : rowS n k = str [114, 101, 116, 117, 114, 110] := by rw [rowS_eq]; simp [h0, hl0]
    have HM := hm
    rw [E] at HM
    have E := Lib.hid E
    clear hm hB ih hkd

    clear hall
    go_enter Tryz.func52, Tryz.ntmps52
    go_wp2_with (first
    | (go_at_call 27; (with_reducible refine (add1_c h _ ?hm).mono ?_); (case hm => ((try simp only [ByteArray.size_append] at HM ⊢); (try simp only [ByteArray.size, str, List.size_toArray, List.length_cons, List.length_nil] at HM ⊢); omega)); rintro e w1 ⟨rfl, h1, hf1⟩; have hc1 := h1.ro.cell))
    go_end0
    exact ⟨rfl, by rw [E.out]; simpa only [ByteArray.append_assoc, ByteArray.append_empty, ByteArray.empty_append, str] using h1, hf1⟩
  · obtain ⟨ad, rfl⟩ := hk.some_ (by omega)
    have hl1 : 0 < n.kids.length := by omega
    have HK := wexpr_c (g := g) (d := some (k : Int)) he (hk.at_ ad rfl 0 hl1) (List.all_eq_true.1 hall _ (List.getElem_mem hl1))
    have E : rowS n k = str [114, 101, 116, 117, 114, 110] ++ str [32] ++ toldS n.kids[0] := by
      rw [rowS_eq]
      have e : (n.kids.length == 1) = true := by simp [hl0]
      simp [h0, e, strAt, hl1, ByteArray.append_assoc]
    generalize n.kids[0] = k0 at HK E
    simp only [Nat.zero_mul] at HK
    replace HK : Adds 68 w0 B g (some (k : Int)) ad (toldS k0) := HK

    have hq : ((n.kids.length : Int) == 1) = true := by rw [beq_iff_eq]; omega
    have HH := Lib.hid hl0
    clear hl0 hall
    have HM := hm
    rw [E] at HM
    have E := Lib.hid E
    clear hm hB ih hkd

    go_enter Tryz.func52, Tryz.ntmps52
    go_wp2_with (first
    | (go_at_call 27; (with_reducible refine (add1_c h _ ?hm).mono ?_); (case hm => ((try simp only [ByteArray.size_append] at HM ⊢); (try simp only [ByteArray.size, str, List.size_toArray, List.length_cons, List.length_nil] at HM ⊢); omega)); rintro e w1 ⟨rfl, h1, hf1⟩; have hc1 := h1.ro.cell)
    | (go_at_call 27; (with_reducible refine (add1_c h1 _ ?hm).mono ?_); (case hm => ((try simp only [ByteArray.size_append] at HM ⊢); (try simp only [ByteArray.size, str, List.size_toArray, List.length_cons, List.length_nil] at HM ⊢); omega)); rintro e w2 ⟨rfl, h2, hf2⟩; have hc2 := h2.ro.cell)
    | (go_at_call 68; (with_reducible refine (HK _ _ h2 ?hm).mono ?_); (case hm => ((try simp only [ByteArray.size_append] at HM ⊢); (try simp only [ByteArray.size, str, List.size_toArray, List.length_cons, List.length_nil] at HM ⊢); omega)); rintro e w3 ⟨rfl, h3, hf3⟩; have hc3 := h3.ro.cell))
    go_end0
    exact ⟨rfl, by rw [E.out]; simpa only [ByteArray.append_assoc, ByteArray.append_empty, ByteArray.empty_append, str] using h3, hf1.trans (hf2.trans (hf3))⟩
set_option maxHeartbeats 40000000 in
set_option maxRecDepth 100000 in
theorem ws_var {w0 w : World} {B g m k : Nat} {s : ByteArray} {a : Addr} {n : Node} (he : Env w0 B) (ih : WStmtIH w0 B g m) (hn : NodeAt w0 B a n) (hms : n.size ≤ m + 1) (hkd : k + n.size ≤ 2097152) (hB : stmtB n = true) (h0 : n.kind = 5) (h : St w0 B g (some (k : Int)) s w) (hm : s.size + (rowS n k).size ≤ 140737488355328) :
    Calls Tryz.prog 52 #[.pointer (some ⟨g, 0, none⟩), .pointer (some a)] w fun e w' => e = .returned (.tuple #[]) ∧ St w0 B g (some (k : Int)) (s ++ rowS n k) w' ∧ Wf g w w' := by
  obtain ⟨A, c, hb, c0, c1, c2, c3, c7, hk⟩ := hn.open_
  have hr := h.ro
  have hc := hr.cell
  have hl := hk.le
  have hl' := hk.le'
  have hz := hr.lt hb
  rw [stmtB_eq] at hB
  simp [h0] at hB
  have hall := exprs_all hB.1.1.2
  have hB2 := hB.1.2
  rcases (by omega : n.kids.length = 0 ∨ n.kids.length = 1) with hl0 | hl0
  · have hq : ((n.kids.length : Int) == 1) = false := by rw [beq_eq_false_iff_ne]; omega
    have E : rowS n k = str [118, 97, 114, 32] ++ n.text ++ str [32] ++ n.type := by rw [rowS_eq]; simp [h0, hl0]
    have HM := hm
    rw [E] at HM
    have E := Lib.hid E
    clear hm hB ih hkd

    clear hall hB2
    go_enter Tryz.func52, Tryz.ntmps52
    go_wp2_with fail
    go_region_with ((go_at_call 27; (with_reducible refine (add4d_c h _ _ _ _ ?hm).mono ?_); (case hm => ((try simp only [ByteArray.size_append] at HM ⊢); (try simp only [ByteArray.size, str, List.size_toArray, List.length_cons, List.length_nil] at HM ⊢); omega)); rintro e w1 ⟨rfl, h1, hf1⟩; have hc1 := h1.ro.cell))
    all_goals go_wp2_with fail
    all_goals go_end0
    all_goals exact ⟨rfl, by rw [E.out]; simpa only [ByteArray.append_assoc, str] using h1, hf1⟩
  · obtain ⟨ad, rfl⟩ := hk.some_ (by omega)
    have hl1 : 0 < n.kids.length := by omega
    have HK := wexpr_c (g := g) (d := some (k : Int)) he (hk.at_ ad rfl 0 hl1) (List.all_eq_true.1 hall _ (List.getElem_mem hl1))
    have E : rowS n k = str [118, 97, 114, 32] ++ n.text ++ str [32] ++ n.type ++ str [32, 61, 32] ++ toldS n.kids[0] := by
      rw [rowS_eq]
      have e : (n.kids.length == 1) = true := by simp [hl0]
      simp [h0, e, strAt, hl1, ByteArray.append_assoc]
    generalize n.kids[0] = k0 at HK E
    simp only [Nat.zero_mul] at HK
    replace HK : Adds 68 w0 B g (some (k : Int)) ad (toldS k0) := HK

    have hq : ((n.kids.length : Int) == 1) = true := by rw [beq_iff_eq]; omega
    have HH := Lib.hid hl0
    clear hl0 hall hB2
    have HM := hm
    rw [E] at HM
    have E := Lib.hid E
    clear hm hB ih hkd

    go_enter Tryz.func52, Tryz.ntmps52
    go_wp2_with fail
    go_region_with ((go_at_call 27; (with_reducible refine (add4d_c h _ _ _ _ ?hm).mono ?_); (case hm => ((try simp only [ByteArray.size_append] at HM ⊢); (try simp only [ByteArray.size, str, List.size_toArray, List.length_cons, List.length_nil] at HM ⊢); omega)); rintro e w1 ⟨rfl, h1, hf1⟩; have hc1 := h1.ro.cell))
    all_goals go_wp2_with (first
    | (go_at_call 27; (with_reducible refine (add1_c h1 _ ?hm).mono ?_); (case hm => ((try simp only [ByteArray.size_append] at HM ⊢); (try simp only [ByteArray.size, str, List.size_toArray, List.length_cons, List.length_nil] at HM ⊢); omega)); rintro e w2 ⟨rfl, h2, hf2⟩; have hc2 := h2.ro.cell)
    | (go_at_call 68; (with_reducible refine (HK _ _ h2 ?hm).mono ?_); (case hm => ((try simp only [ByteArray.size_append] at HM ⊢); (try simp only [ByteArray.size, str, List.size_toArray, List.length_cons, List.length_nil] at HM ⊢); omega)); rintro e w3 ⟨rfl, h3, hf3⟩; have hc3 := h3.ro.cell))
    all_goals go_end0
    all_goals exact ⟨rfl, by rw [E.out]; simpa only [ByteArray.append_assoc, str] using h3, hf1.trans (hf2.trans hf3)⟩
end Go.Proofs.YtjdeomenioagdaaGreatDoor
