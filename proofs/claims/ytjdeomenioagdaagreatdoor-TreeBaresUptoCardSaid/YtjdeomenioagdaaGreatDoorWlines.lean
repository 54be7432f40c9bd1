/- Lines and blocks are written, by the program. -/
import Derived.Test.YtjdeomenioagdaaGreatDoorWsimple
set_option linter.unusedVariables false
set_option linter.unusedSimpArgs false
namespace Go.Proofs.YtjdeomenioagdaaGreatDoor
open Go.RowKit
theorem blockS_eq (n : Node) (d : Nat) : blockS n d = innerS d (n.kids.map (rowS · (d + 1))) := by cases n; simp only [blockS, rowsS_map]
theorem bodyS_eq (n : Node) (d : Nat) : bodyS n d = linesS d (n.kids.map (rowS · d)) := by cases n; simp only [bodyS, rowsS_map]
theorem clauseS_eq (n : Node) (d : Nat) : clauseS n d = tabsS d ++ choiceS n ++ str [58, 10] ++ strAt (n.kids.map (bodyS · (d + 1))) (n.kids.length - 1) := by cases n; simp only [clauseS, bodiesS_map]
theorem rowS_eq (n : Node) (deep : Nat) : rowS n deep = (
    if n.kind == 4 then innerS deep (n.kids.map (rowS · (deep + 1)))
    else if n.kind == 5 then str [118, 97, 114, 32] ++ n.text ++ str [32] ++ n.type ++ (if n.kids.length == 1 then str [32, 61, 32] ++ strAt (n.kids.map toldS) 0 else .empty)
    else if n.kind == 11 then str [105, 102, 32] ++ strAt (n.kids.map toldS) 0 ++ str [32] ++ strAt (n.kids.map (blockS · deep)) 1 ++ (if n.kids.length == 3 then str [32, 101, 108, 115, 101, 32] ++ strAt (n.kids.map (rowS · deep)) 2 else .empty)
    else if n.kind == 12 then str [102, 111, 114, 32] ++ headS n ++ strAt (n.kids.map (blockS · deep)) (n.kids.length - 1)
    else if n.kind == 13 then str [115, 119, 105, 116, 99, 104, 32] ++ (if n.n == 1 then strAt (n.kids.map toldS) 0 ++ str [32] else .empty) ++ str [123, 10] ++ partsS ((n.kids.map (clauseS · deep)).drop n.n.toNat) ++ tabsS deep ++ str [125]
    else if n.kind == 15 then str [115, 101, 108, 101, 99, 116, 32] ++ str [123, 10] ++ partsS (n.kids.map (clauseS · deep)) ++ tabsS deep ++ str [125]
    else if n.kind == 17 then str [103, 111, 32] ++ strAt (n.kids.map toldS) 0
    else if n.kind == 18 then str [114, 101, 116, 117, 114, 110] ++ (if n.kids.length == 1 then str [32] ++ strAt (n.kids.map toldS) 0 else .empty)
    else if n.kind == 19 then str [98, 114, 101, 97, 107]
    else if n.kind == 20 then str [99, 111, 110, 116, 105, 110, 117, 101]
    else shortS n) := by cases n; rw [rowS.eq_def]; simp only [rowsS_map, blocksS_map, clausesS_map]
theorem linesS_step (d : Nat) (l : List ByteArray) (k : Nat) (h : k < l.length) : linesS d (l.take (k + 1)) = linesS d (l.take k) ++ (tabsS d ++ l[k] ++ str [10]) := by
  simp only [linesS, List.map_take]
  rw [partsS_take _ _ (by simpa using h), List.getElem_map]
theorem linesS_le (d : Nat) (l : List ByteArray) (k : Nat) : (linesS d (l.take k)).size ≤ (linesS d l).size := by
  simp only [linesS, List.map_take]
  exact partsS_size _ _
theorem tabsz_c {w0 w : World} {B g k : Nat} {s : ByteArray} (h : St w0 B g (some k) s w) (hk : k ≤ 2097152) (hm : s.size + (tabsS k).size ≤ 140737488355328) :
    Calls Tryz.prog 42 #[.pointer (some ⟨g, 0, none⟩)] w fun e w' => e = .returned (.tuple #[]) ∧ St w0 B g (some k) (s ++ tabsS k) w' ∧ Wf g w w' :=
  tabs_c h hk (by rw [tabsS_size] at hm; exact hm)
theorem St.deepcell {w0 w : World} {B g : Nat} {k : Int} {s : ByteArray} (h : St w0 B g (some k) s w) : w.cell? ⟨g, 2, none⟩ = some (.int .i64 k) := by
  obtain ⟨hB, p, v, hp, hg, hown, he⟩ := h.wr
  exact Lib.cell_of_heap hg 2
theorem St.deepfree {w0 w : World} {B g : Nat} {d : Option Int} {s : ByteArray} (h : St w0 B g d s w) : w.frozen? ⟨g, 2, none⟩ = false := by
  obtain ⟨hB, p, v, hp, hg, hown, he⟩ := h.wr
  exact Lib.frozen_of_heap hg 2
theorem wrow_set2 (p v : Value) (k j : Int) : (wrow p v (some k)).setIfInBounds 2 (.int .i64 j) = wrow p v (some j) := rfl
theorem St.deeper {w0 w : World} {B g : Nat} {k : Int} {s : ByteArray} (h : St w0 B g (some k) s w) (j : Int) : St w0 B g (some j) s (w.setCell ⟨g, 2, none⟩ (.int .i64 j)) := by
  obtain ⟨hB, p, v, hp, hg, hown, he⟩ := h.wr
  refine ⟨h.ro.set_ hB _, hB, p, v, hp, ?_, ?_, he⟩
  · rw [setCell_row hg 2, wrow_set2]; rfl
  · refine hown.kept (row := some g) ⟨rfl, rfl, rfl, by simp [World.setCell], fun k _ hk => Below.heap_setCell _ _ _ _ (fun e => hk (by simp [e]))⟩ ?_
    exact Or.inr (Lib.ownBlock_ne hown hg (wtype_ne (some k)))
set_option maxHeartbeats 40000000 in
set_option maxRecDepth 100000 in
theorem lines_c {w0 w : World} {B g : Nat} {s : ByteArray} {A : Option Addr} {l : List Node} {c k : Nat} (hk : KidsAt w0 B A l c) (hkd : k + 1 ≤ 2097152)
    (ha : ∀ ad, A = some ad → ∀ i (h : i < l.length), Adds 52 w0 B g (some ((k + 1 : Nat) : Int)) (ad.add (i * 8)) (rowS l[i] (k + 1)))
    (h : St w0 B g (some (k : Int)) s w) (hm : s.size + (linesS (k + 1) (l.map (rowS · (k + 1)))).size ≤ 140737488355328) :
    Calls Tryz.prog 41 #[.pointer (some ⟨g, 0, none⟩), .slice A l.length c] w fun e w' => e = .returned (.tuple #[]) ∧ St w0 B g (some (k : Int)) (s ++ linesS (k + 1) (l.map (rowS · (k + 1)))) w' ∧ Wf g w w' := by
  have hl := hk.le
  have hl' := hk.le'
  have HA := Lib.hid ha
  clear ha
  have d2 := h.deepcell
  have f2 := h.deepfree
  have hW := h.deeper (k + 1)
  have hWf := (Wf.refl g w).set_ 2 (.int .i64 ((k : Int) + 1))
  go_enter Tryz.func41, Tryz.ntmps41
  go_wp2
  generalize w.setCell ⟨g, 2, none⟩ (.int .i64 ((k : Int) + 1)) = W at hW hWf ⊢
  clear d2 f2
  have hkd' : ((k : Int) + 1) = ((k + 1 : Nat) : Int) := by omega
  rw [hkd'] at hW
  clear hkd'
  generalize hK : k + 1 = K at hW HA hm hkd
  have HK := Lib.hid hK
  clear hK
  go_loopw [4, 14] (fun _ u wr => ∃ i : Nat, i ≤ l.length ∧ u = .int .i64 i ∧ St w0 B g (some (K : Int)) (s ++ linesS K ((l.map (rowS · K)).take i)) wr ∧ Wf g w wr) (fun _ u _ => (l.length - (intOf u).toNat : Nat))
  case atStart => exact ⟨0, by omega, rfl, by simpa [linesS, partsS] using hW, hWf⟩
  case round =>
    obtain ⟨i, hil, rfl, hst, hwf⟩ := hrel
    by_cases hlt : i < l.length
    · obtain ⟨ad, rfl⟩ := hk.some_ (by omega)
      have HC := Lib.hid (HA.out ad rfl i hlt)
      have hz := linesS_le K (l.map (rowS · K)) (i + 1)
      have hstep := linesS_step K (l.map (rowS · K)) i (by simpa using hlt)
      rw [List.getElem_map] at hstep
      rw [hstep] at hz
      have HN := Lib.hid hstep
      have HM : s.size + (linesS K ((l.map (rowS · K)).take i) ++ (tabsS K ++ rowS l[i] K ++ str [10])).size ≤ 140737488355328 := by omega
      clear hz hm hstep
      generalize linesS K ((l.map (rowS · K)).take i) = J at hst HN HM
      generalize rowS l[i] K = tk at HC HN HM
      clear hk
      go_wp2_with (first
    | (go_at_call 42; (with_reducible refine (tabsz_c hst hkd ?hm).mono ?_); (case hm => ((try simp only [ByteArray.size_append] at HM ⊢); (try simp only [ByteArray.size, str, List.size_toArray, List.length_cons, List.length_nil] at HM ⊢); omega)); rintro e w1 ⟨rfl, h1, hf1⟩; have hc1 := h1.ro.cell)
    | (go_at_call 52; (with_reducible refine (HC.out _ _ h1 ?hm).mono ?_); (case hm => ((try simp only [ByteArray.size_append] at HM ⊢); (try simp only [ByteArray.size, str, List.size_toArray, List.length_cons, List.length_nil] at HM ⊢); omega)); rintro e w2 ⟨rfl, h2, hf2⟩; have hc2 := h2.ro.cell)
    | (go_at_call 27; (with_reducible refine (add1_c h2 _ ?hm).mono ?_); (case hm => ((try simp only [ByteArray.size_append] at HM ⊢); (try simp only [ByteArray.size, str, List.size_toArray, List.length_cons, List.length_nil] at HM ⊢); omega)); rintro e w3 ⟨rfl, h3, hf3⟩; have hc3 := h3.ro.cell))
      exact ⟨⟨i + 1, by omega, by go_num, by rw [HN.out]; simpa only [ByteArray.append_assoc, str] using h3, hwf.trans (hf1.trans (hf2.trans hf3))⟩, by simp [intOf]; omega⟩
    · have hi : i = (l.map (rowS · K)).length := by simp; omega
      subst hi
      rw [List.take_length] at hst
      have d2 := hst.deepcell
      have f2 := hst.deepfree
      have hD := hst.deeper k
      have hDf := hwf.set_ 2 (.int .i64 (k : Int))
      have hk1 : ((K : Int) - 1) = (k : Int) := by have := HK.out; omega
      have HK1 := Lib.hid hk1
      clear hk1
      go_wp2
      go_end0
      rw [HK1.out, HK.out]
      exact ⟨rfl, hD, hDf⟩
set_option maxHeartbeats 40000000 in
set_option maxRecDepth 100000 in
theorem wblock_c {w0 w : World} {B g : Nat} {s : ByteArray} {a : Addr} {n : Node} {k : Nat} (hn : NodeAt w0 B a n) (hkd1 : k + 1 ≤ 2097152)
    (ha : ∀ A c, KidsAt w0 B A n.kids c → ∀ ad, A = some ad → ∀ i (h : i < n.kids.length), Adds 52 w0 B g (some ((k + 1 : Nat) : Int)) (ad.add (i * 8)) (rowS n.kids[i] (k + 1)))
    (h : St w0 B g (some (k : Int)) s w) (hm : s.size + (blockS n k).size ≤ 140737488355328) :
    Calls Tryz.prog 28 #[.pointer (some ⟨g, 0, none⟩), .pointer (some a)] w fun e w' => e = .returned (.tuple #[]) ∧ St w0 B g (some (k : Int)) (s ++ blockS n k) w' ∧ Wf g w w' := by
  obtain ⟨A, c, hb, c0, c1, c2, c3, c7, hk⟩ := hn.open_
  have hr := h.ro
  have hc := hr.cell
  have hl := hk.le
  have hl' := hk.le'
  have hz := hr.lt hb
  have HA := Lib.hid (ha _ _ hk)
  clear ha
  have HL := Lib.hid (fun s w (h : St w0 B g (some (k : Int)) s w) hm => lines_c (w := w) (s := s) hk hkd1 HA.out h hm)
  have E : Hid (blockS n k = str [123, 10] ++ linesS (k + 1) (n.kids.map (rowS · (k + 1))) ++ tabsS k ++ str [125]) := by show _ = _; rw [blockS_eq, innerS]
  have hkd : k ≤ 2097152 := by omega
  have HM := hm
  rw [E.out] at HM
  clear hm
  generalize linesS (k + 1) (n.kids.map (rowS · (k + 1))) = J at HL E HM
  go_enter Tryz.func28, Tryz.ntmps28
  go_wp2_with (first
    | (go_at_call 27; (with_reducible refine (add1_c h _ ?hm).mono ?_); (case hm => ((try simp only [ByteArray.size_append] at HM ⊢); (try simp only [ByteArray.size, str, List.size_toArray, List.length_cons, List.length_nil] at HM ⊢); omega)); rintro e w1 ⟨rfl, h1, hf1⟩; have hc1 := h1.ro.cell)
    | (go_at_call 41; (with_reducible refine (HL.out _ _ h1 ?hm).mono ?_); (case hm => ((try simp only [ByteArray.size_append] at HM ⊢); (try simp only [ByteArray.size, str, List.size_toArray, List.length_cons, List.length_nil] at HM ⊢); omega)); rintro e w2 ⟨rfl, h2, hf2⟩; have hc2 := h2.ro.cell)
    | (go_at_call 42; (with_reducible refine (tabsz_c h2 hkd ?hm).mono ?_); (case hm => ((try simp only [ByteArray.size_append] at HM ⊢); (try simp only [ByteArray.size, str, List.size_toArray, List.length_cons, List.length_nil] at HM ⊢); omega)); rintro e w3 ⟨rfl, h3, hf3⟩; have hc3 := h3.ro.cell)
    | (go_at_call 27; (with_reducible refine (add1_c h3 _ ?hm).mono ?_); (case hm => ((try simp only [ByteArray.size_append] at HM ⊢); (try simp only [ByteArray.size, str, List.size_toArray, List.length_cons, List.length_nil] at HM ⊢); omega)); rintro e w4 ⟨rfl, h4, hf4⟩; have hc4 := h4.ro.cell))
  go_end0
  exact ⟨rfl, by rw [E.out]; simpa only [ByteArray.append_assoc, ByteArray.append_empty, ByteArray.empty_append, str] using h4, hf1.trans (hf2.trans (hf3.trans (hf4)))⟩
end Go.Proofs.YtjdeomenioagdaaGreatDoor
