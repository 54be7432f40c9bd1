/- Statements are written, by the program: if, for, switch, select; all of them. -/
import Derived.Test.YtjdeomenioagdaaGreatDoorWstmt
import Derived.StillTailTactics
import Derived.Deep.RegionWith
import Derived.IntWalk
set_option linter.unusedVariables false
set_option linter.unusedSimpArgs false
namespace Go.Proofs.YtjdeomenioagdaaGreatDoor
open Go.RowKit
theorem clause_ok {kd : Int} {c : Node} (hkd : kd = 14 ∨ kd = 16) (h : clauseB kd c = true) : ClauseOk c := by
  unfold clauseB at h
  simp only [Bool.and_eq_true, Bool.or_eq_true, beq_iff_eq, decide_eq_true_eq] at h
  obtain ⟨⟨⟨⟨h1, h2⟩, _⟩, h4⟩, h5⟩ := h
  refine ⟨h4, ?_⟩
  rcases h2 with h2 | h2
  · right
    rw [h2] at h5
    rcases hkd with rfl | rfl
    · left
      simp at h5
      exact ⟨h2, h1, exprs_all h5.2⟩
    · right
      simp at h5
      refine ⟨h2, h1, fun x hx => ?_⟩
      have := kidB_spec h5.2 x hx
      simp only [commB, Bool.and_eq_true] at this
      exact this.1
  · exact .inl h2
set_option maxHeartbeats 40000000 in
set_option maxRecDepth 100000 in
theorem ws_simple {w0 w : World} {B g m k : Nat} {s : ByteArray} {a : Addr} {n : Node} (he : Env w0 B) (ih : WStmtIH w0 B g m) (hn : NodeAt w0 B a n) (hms : n.size ≤ m + 1) (hkd : k + n.size ≤ 2097152) (hB : stmtB n = true) (hx : simpleB n = true) (h : St w0 B g (some (k : Int)) s w) (hm : s.size + (rowS n k).size ≤ 140737488355328) :
    Calls Tryz.prog 52 #[.pointer (some ⟨g, 0, none⟩), .pointer (some a)] w fun e w' => e = .returned (.tuple #[]) ∧ St w0 B g (some (k : Int)) (s ++ rowS n k) w' ∧ Wf g w w' := by
  obtain ⟨A, c, hb, c0, c1, c2, c3, c7, hk⟩ := hn.open_
  have hr := h.ro
  have hc := hr.cell
  have hl := hk.le
  have hl' := hk.le'
  have hz := hr.lt hb
  have HS := wsimple_c (g := g) (d := some (k : Int)) he hn (.inl hx)
  have hkd4 : (n.kind == 4) = false ∧ (n.kind == 5) = false ∧ (n.kind == 11) = false ∧ (n.kind == 12) = false ∧ (n.kind == 13) = false ∧ (n.kind == 15) = false ∧ (n.kind == 17) = false ∧ (n.kind == 18) = false ∧ (n.kind == 19) = false ∧ (n.kind == 20) = false := by
    rcases simple_cases n hx with ⟨h0, _⟩ | ⟨h0, _⟩ | ⟨h0, _⟩ | ⟨h0, _⟩
    · rcases h0 with h0 | h0 <;> rw [h0] <;> decide
    all_goals (rw [h0]; decide)
  obtain ⟨z4, z5, z11, z12, z13, z15, z17, z18, z19, z20⟩ := hkd4
  have E : rowS n k = shortS n := by
    rw [rowS_eq]
    simp [z4, z5, z11, z12, z13, z15, z17, z18, z19, z20]
  have HM := hm
  rw [E] at HM
  have E := Lib.hid E
  clear hm hB ih hkd
  go_enter Tryz.func52, Tryz.ntmps52
  go_wp2_with (first
    | (go_at_call 71; (with_reducible refine (HS _ _ h ?hm).mono ?_); (case hm => ((try simp only [ByteArray.size_append] at HM ⊢); (try simp only [ByteArray.size, str, List.size_toArray, List.length_cons, List.length_nil] at HM ⊢); omega)); rintro e w1 ⟨rfl, h1, hf1⟩; have hc1 := h1.ro.cell))
  go_end0
  exact ⟨rfl, by rw [E.out]; simpa only [ByteArray.append_assoc, ByteArray.append_empty, ByteArray.empty_append, str] using h1, hf1⟩
set_option maxHeartbeats 40000000 in
set_option maxRecDepth 100000 in
theorem ws_select {w0 w : World} {B g m k : Nat} {s : ByteArray} {a : Addr} {n : Node} (he : Env w0 B) (ih : WStmtIH w0 B g m) (hn : NodeAt w0 B a n) (hms : n.size ≤ m + 1) (hkd : k + n.size ≤ 2097152) (hB : stmtB n = true) (h0 : n.kind = 15) (h : St w0 B g (some (k : Int)) s w) (hm : s.size + (rowS n k).size ≤ 140737488355328) :
    Calls Tryz.prog 52 #[.pointer (some ⟨g, 0, none⟩), .pointer (some a)] w fun e w' => e = .returned (.tuple #[]) ∧ St w0 B g (some (k : Int)) (s ++ rowS n k) w' ∧ Wf g w w' := by
  obtain ⟨A, c, hb, c0, c1, c2, c3, c7, hk⟩ := hn.open_
  have hr := h.ro
  have hc := hr.cell
  have hl := hk.le
  have hl' := hk.le'
  have hz := hr.lt hb
  rw [stmtB_eq] at hB
  simp [h0] at hB
  have hcl : ∀ c ∈ n.kids, clauseB 16 c = true := by simpa using hB.1.1.2
  have hla : ∀ c ∈ n.kids, lastB c.kids = true := by
    have := hB.2
    rw [lastsB_all] at this
    simpa using this
  have HC := Lib.hid (fun (s : ByteArray) (w : World) (h : St w0 B g (some (k : Int)) s w) hm => wclauses_c (w := w) (s := s) he hk (by omega) (fun c hc => clause_ok (.inr rfl) (hcl c hc)) (fun c hc A cc hkk => by
    have := Node.size_kid hc
    exact lastis_ih ih hkk (hla c hc) (by omega) (by omega)) h hm)
  have E : rowS n k = str [115, 101, 108, 101, 99, 116, 32] ++ (str [123, 10] ++ partsS (n.kids.map (clauseS · k)) ++ tabsS k ++ str [125]) := by
    rw [rowS_eq]
    simp [h0, ByteArray.append_assoc]
  generalize str [123, 10] ++ partsS (n.kids.map (clauseS · k)) ++ tabsS k ++ str [125] = J at HC E
  clear hcl hla
  have HM := hm
  rw [E] at HM
  have E := Lib.hid E
  clear hm hB ih hkd
  go_enter Tryz.func52, Tryz.ntmps52
  go_wp2_with (first
    | (go_at_call 27; (with_reducible refine (add1_c h _ ?hm).mono ?_); (case hm => ((try simp only [ByteArray.size_append] at HM ⊢); (try simp only [ByteArray.size, str, List.size_toArray, List.length_cons, List.length_nil] at HM ⊢); omega)); rintro e w1 ⟨rfl, h1, hf1⟩; have hc1 := h1.ro.cell)
    | (go_at_call 70; (with_reducible refine (HC.out _ _ h1 ?hm).mono ?_); (case hm => ((try simp only [ByteArray.size_append] at HM ⊢); (try simp only [ByteArray.size, str, List.size_toArray, List.length_cons, List.length_nil] at HM ⊢); omega)); rintro e w2 ⟨rfl, h2, hf2⟩; have hc2 := h2.ro.cell))
  go_end0
  exact ⟨rfl, by rw [E.out]; simpa only [ByteArray.append_assoc, ByteArray.append_empty, ByteArray.empty_append, str] using h2, hf1.trans (hf2)⟩
set_option maxHeartbeats 40000000 in
set_option maxRecDepth 100000 in
theorem ws_for {w0 w : World} {B g m k : Nat} {s : ByteArray} {a : Addr} {n : Node} (he : Env w0 B) (ih : WStmtIH w0 B g m) (hn : NodeAt w0 B a n) (hms : n.size ≤ m + 1) (hkd : k + n.size ≤ 2097152) (hB : stmtB n = true) (h0 : n.kind = 12) (h : St w0 B g (some (k : Int)) s w) (hm : s.size + (rowS n k).size ≤ 140737488355328) :
    Calls Tryz.prog 52 #[.pointer (some ⟨g, 0, none⟩), .pointer (some a)] w fun e w' => e = .returned (.tuple #[]) ∧ St w0 B g (some (k : Int)) (s ++ rowS n k) w' ∧ Wf g w w' := by
  obtain ⟨A, c, hb, c0, c1, c2, c3, c7, hk⟩ := hn.open_
  have hr := h.ro
  have hc := hr.cell
  have hl := hk.le
  have hl' := hk.le'
  have hz := hr.lt hb
  rw [stmtB_eq] at hB
  simp only [h0, show ((12 : Int) == 4) = false from rfl, show ((12 : Int) == 5) = false from rfl, show ((12 : Int) == 11) = false from rfl, beq_self_eq_true, if_true, Bool.false_eq_true, if_false, Bool.and_eq_true, decide_eq_true_eq, beq_iff_eq] at hB
  obtain ⟨⟨⟨⟨⟨b0, b3⟩, bl⟩, _⟩, blast⟩, bloop⟩ := hB
  have HH := whead_c (g := g) (d := some (k : Int)) he hn b0 b3 bl bloop
  have hpos : 1 ≤ n.kids.length := by
    rcases (by omega : n.n = 0 ∨ n.n = 1 ∨ n.n = 2 ∨ n.n = 3) with q | q | q | q <;> rw [q] at bl <;> simp [loopN] at bl <;> omega
  obtain ⟨q, hq⟩ : ∃ q, n.kids.length = q + 1 := ⟨n.kids.length - 1, by omega⟩
  obtain ⟨ad, rfl⟩ := hk.some_ (by omega)
  have hq1 : q < n.kids.length := by omega
  have hbk : blockB n.kids[q] = true := by
    rw [lastB_eq, List.getLast?_eq_getElem?, hq] at blast
    simpa [hq1] using blast
  have hsz := n.size_kid (List.getElem_mem hq1)
  have HB := wblock_ih (k := k) ih (hk.at_ ad rfl q hq1) hbk (by omega) (by omega)
  have E : rowS n k = str [102, 111, 114, 32] ++ headS n ++ blockS n.kids[q] k := by
    rw [rowS_eq]
    have e : n.kids.length - 1 = q := by omega
    simp only [e]
    simp [h0, strAt, hq1]
  generalize n.kids[q] = b at HB E
  have hq2 : q < c := by omega
  have hq5 : q ≤ 1048576 := by omega
  rw [hq] at c7
  clear hq1 hbk hsz bl b0 b3 blast bloop hpos
  have HQ := Lib.hid hq
  clear hq
  have HM := hm
  rw [E] at HM
  have E := Lib.hid E
  clear hm ih hkd
  go_enter Tryz.func52, Tryz.ntmps52
  go_wp2_with (first
    | (go_at_call 27; (with_reducible refine (add1_c h _ ?hm).mono ?_); (case hm => ((try simp only [ByteArray.size_append] at HM ⊢); (try simp only [ByteArray.size, str, List.size_toArray, List.length_cons, List.length_nil] at HM ⊢); omega)); rintro e w1 ⟨rfl, h1, hf1⟩; have hc1 := h1.ro.cell)
    | (go_at_call 69; (with_reducible refine (HH _ _ h1 ?hm).mono ?_); (case hm => ((try simp only [ByteArray.size_append] at HM ⊢); (try simp only [ByteArray.size, str, List.size_toArray, List.length_cons, List.length_nil] at HM ⊢); omega)); rintro e w2 ⟨rfl, h2, hf2⟩; have hc2 := h2.ro.cell))
  have hD := h2.drew
  have hcD := hD.ro.cell
  have hw1 : IntKind.i64.wrap ((q : Int) + 1 - 1) = q := by rw [show (q : Int) + 1 - 1 = q from by omega]; exact IntWalk.i64_in _ (by omega)
  have hw2 : IntKind.i64.wrap (q : Int) = q := IntWalk.i64_in _ (by omega)
  have hw3 : (0 : Int) ≤ q := by omega
  have hw4 : (q : Int) < (q : Int) + 1 := by omega
  have hw5 : q < q + 1 := by omega
  go_region_with ((go_at_call 28; (with_reducible refine (HB _ _ hD ?hm).mono ?_); (case hm => ((try simp only [ByteArray.size_append] at HM ⊢); (try simp only [ByteArray.size, str, List.size_toArray, List.length_cons, List.length_nil] at HM ⊢); omega)); rintro e w3 ⟨rfl, h3, hf3⟩; have hc3 := h3.ro.cell))
  all_goals go_wp2_with fail
  all_goals go_end0
  all_goals exact ⟨rfl, by rw [E.out]; simpa only [ByteArray.append_assoc, str] using h3, (hf1.trans hf2).drew.trans hf3⟩
end Go.Proofs.YtjdeomenioagdaaGreatDoor
