/- Statements are written, by the program: if, switch; all of them. -/
import Derived.Test.YtjdeomenioagdaaGreatDoorWstmt2
import Derived.StillTailTactics
import Derived.Deep.RegionWith
set_option linter.unusedVariables false
set_option linter.unusedSimpArgs false
namespace Go.Proofs.YtjdeomenioagdaaGreatDoor
open Go.RowKit
theorem if_two {n : Node} (h : ifB n.kids = true) (hl : n.kids.length = 2) : (∀ (h0 : 0 < n.kids.length), exprB n.kids[0] = true) ∧ (∀ (h1 : 1 < n.kids.length), blockB n.kids[1] = true) := by
  match q : n.kids, hl with
  | [x, y], _ =>
    rw [q] at h
    simp only [ifB, Bool.and_eq_true] at h
    exact ⟨fun _ => h.1, fun _ => by simp only [blockB, Bool.and_eq_true]; exact h.2⟩
theorem if_three {n : Node} (h : ifB n.kids = true) (hl : n.kids.length = 3) : (∀ (h0 : 0 < n.kids.length), exprB n.kids[0] = true) ∧ (∀ (h1 : 1 < n.kids.length), blockB n.kids[1] = true) ∧ (∀ (h2 : 2 < n.kids.length), stmtB n.kids[2] = true) := by
  match q : n.kids, hl with
  | [x, y, z], _ =>
    rw [q] at h
    simp only [ifB, Bool.and_eq_true] at h
    exact ⟨fun _ => h.1.1, fun _ => by simp only [blockB, Bool.and_eq_true]; exact h.1.2, fun _ => h.2.2⟩
theorem if_len {l : List Node} (h : ifB l = true) : l.length = 2 ∨ l.length = 3 := by
  match l, h with
  | [_, _], _ => exact .inl rfl
  | [_, _, _], _ => exact .inr rfl
set_option maxHeartbeats 40000000 in
set_option maxRecDepth 100000 in
theorem ws_if {w0 w : World} {B g m k : Nat} {s : ByteArray} {a : Addr} {n : Node} (he : Env w0 B) (ih : WStmtIH w0 B g m) (hn : NodeAt w0 B a n) (hms : n.size ≤ m + 1) (hkd : k + n.size ≤ 2097152) (hB : stmtB n = true) (h0 : n.kind = 11) (h : St w0 B g (some (k : Int)) s w) (hm : s.size + (rowS n k).size ≤ 140737488355328) :
    Calls Tryz.prog 52 #[.pointer (some ⟨g, 0, none⟩), .pointer (some a)] w fun e w' => e = .returned (.tuple #[]) ∧ St w0 B g (some (k : Int)) (s ++ rowS n k) w' ∧ Wf g w w' := by
  obtain ⟨A, c, hb, c0, c1, c2, c3, c7, hk⟩ := hn.open_
  have hr := h.ro
  have hc := hr.cell
  have hl := hk.le
  have hl' := hk.le'
  have hz := hr.lt hb
  rw [stmtB_eq] at hB
  simp [h0] at hB
  have hB2 := hB.2
  rcases if_len hB2 with hl2 | hl3
  · obtain ⟨b0, b1⟩ := if_two hB2 hl2
    obtain ⟨ad, rfl⟩ := hk.some_ (by omega)
    have b0 := b0 (by omega)
    have b1 := b1 (by omega)
    have hl0 : 0 < n.kids.length := by omega
    have hl1 : 1 < n.kids.length := by omega
    have HI := wexpr_c (g := g) (d := some (k : Int)) he (hk.at_ ad rfl 0 hl0) b0
    have HJ := wblock_ih (k := k) ih (hk.at_ ad rfl 1 hl1) b1 (by have := n.size_kid (List.getElem_mem hl1); omega) (by have := n.size_kid (List.getElem_mem hl1); omega)
    rw [add8] at HJ
    simp only [Nat.zero_mul] at HI
    have E : rowS n k = str [105, 102, 32] ++ toldS n.kids[0] ++ str [32] ++ blockS n.kids[1] k := by
      rw [rowS_eq]
      have e : (n.kids.length == 3) = false := by simp [hl2]
      simp [h0, strAt, hl0, hl1, e]
    generalize n.kids[0] = k0 at HI E
    generalize n.kids[1] = k1 at HJ E
    replace HI : Adds 68 w0 B g (some (k : Int)) ad (toldS k0) := HI
    have hq : ((n.kids.length : Int) == 3) = false := by rw [beq_eq_false_iff_ne]; omega
    have HH := Lib.hid hl2
    clear hl2 hB2 b0 b1
    have HM := hm
    rw [E] at HM
    have E := Lib.hid E
    clear hm hB ih hkd

    go_enter Tryz.func52, Tryz.ntmps52
    go_wp2_with (first
    | (go_at_call 27; (with_reducible refine (add1_c h _ ?hm).mono ?_); (case hm => ((try simp only [ByteArray.size_append] at HM ⊢); (try simp only [ByteArray.size, str, List.size_toArray, List.length_cons, List.length_nil] at HM ⊢); omega)); rintro e w1 ⟨rfl, h1, hf1⟩; have hc1 := h1.ro.cell)
    | (go_at_call 68; (with_reducible refine (HI _ _ h1 ?hm).mono ?_); (case hm => ((try simp only [ByteArray.size_append] at HM ⊢); (try simp only [ByteArray.size, str, List.size_toArray, List.length_cons, List.length_nil] at HM ⊢); omega)); rintro e w2 ⟨rfl, h2, hf2⟩; have hc2 := h2.ro.cell)
    | (go_at_call 27; (with_reducible refine (add1_c h2 _ ?hm).mono ?_); (case hm => ((try simp only [ByteArray.size_append] at HM ⊢); (try simp only [ByteArray.size, str, List.size_toArray, List.length_cons, List.length_nil] at HM ⊢); omega)); rintro e w3 ⟨rfl, h3, hf3⟩; have hc3 := h3.ro.cell)
    | (go_at_call 28; (with_reducible refine (HJ _ _ h3 ?hm).mono ?_); (case hm => ((try simp only [ByteArray.size_append] at HM ⊢); (try simp only [ByteArray.size, str, List.size_toArray, List.length_cons, List.length_nil] at HM ⊢); omega)); rintro e w4 ⟨rfl, h4, hf4⟩; have hc4 := h4.ro.cell))
    go_end0
    exact ⟨rfl, by rw [E.out]; simpa only [ByteArray.append_assoc, ByteArray.append_empty, ByteArray.empty_append, str] using h4, hf1.trans (hf2.trans (hf3.trans (hf4)))⟩
  · obtain ⟨b0, b1, b2⟩ := if_three hB2 hl3
    obtain ⟨ad, rfl⟩ := hk.some_ (by omega)
    have b0 := b0 (by omega)
    have b1 := b1 (by omega)
    have hl0 : 0 < n.kids.length := by omega
    have hl1 : 1 < n.kids.length := by omega
    have HI := wexpr_c (g := g) (d := some (k : Int)) he (hk.at_ ad rfl 0 hl0) b0
    have HJ := wblock_ih (k := k) ih (hk.at_ ad rfl 1 hl1) b1 (by have := n.size_kid (List.getElem_mem hl1); omega) (by have := n.size_kid (List.getElem_mem hl1); omega)
    rw [add8] at HJ
    simp only [Nat.zero_mul] at HI
    have hl2 : 2 < n.kids.length := by omega
    have HK := ih _ _ k (hk.at_ ad rfl 2 hl2) (b2 hl2) (by have := n.size_kid (List.getElem_mem hl2); omega) (by have := n.size_kid (List.getElem_mem hl2); omega)
    rw [add16] at HK
    have E : rowS n k = str [105, 102, 32] ++ toldS n.kids[0] ++ str [32] ++ blockS n.kids[1] k ++ str [32, 101, 108, 115, 101, 32] ++ rowS n.kids[2] k := by
      rw [rowS_eq]
      have e : (n.kids.length == 3) = true := by simp [hl3]
      simp [h0, strAt, hl0, hl1, hl2, e, ByteArray.append_assoc]
    generalize n.kids[0] = k0 at HI E
    generalize n.kids[1] = k1 at HJ E
    generalize n.kids[2] = k2 at HK E
    replace HI : Adds 68 w0 B g (some (k : Int)) ad (toldS k0) := HI
    have hq : ((n.kids.length : Int) == 3) = true := by rw [beq_iff_eq]; omega
    have HH := Lib.hid hl3
    clear hl3 hB2 b0 b1 b2
    have HM := hm
    rw [E] at HM
    have E := Lib.hid E
    clear hm hB ih hkd

    go_enter Tryz.func52, Tryz.ntmps52
    go_wp2_with (first
    | (go_at_call 27; (with_reducible refine (add1_c h _ ?hm).mono ?_); (case hm => ((try simp only [ByteArray.size_append] at HM ⊢); (try simp only [ByteArray.size, str, List.size_toArray, List.length_cons, List.length_nil] at HM ⊢); omega)); rintro e w1 ⟨rfl, h1, hf1⟩; have hc1 := h1.ro.cell)
    | (go_at_call 68; (with_reducible refine (HI _ _ h1 ?hm).mono ?_); (case hm => ((try simp only [ByteArray.size_append] at HM ⊢); (try simp only [ByteArray.size, str, List.size_toArray, List.length_cons, List.length_nil] at HM ⊢); omega)); rintro e w2 ⟨rfl, h2, hf2⟩; have hc2 := h2.ro.cell)
    | (go_at_call 27; (with_reducible refine (add1_c h2 _ ?hm).mono ?_); (case hm => ((try simp only [ByteArray.size_append] at HM ⊢); (try simp only [ByteArray.size, str, List.size_toArray, List.length_cons, List.length_nil] at HM ⊢); omega)); rintro e w3 ⟨rfl, h3, hf3⟩; have hc3 := h3.ro.cell)
    | (go_at_call 28; (with_reducible refine (HJ _ _ h3 ?hm).mono ?_); (case hm => ((try simp only [ByteArray.size_append] at HM ⊢); (try simp only [ByteArray.size, str, List.size_toArray, List.length_cons, List.length_nil] at HM ⊢); omega)); rintro e w4 ⟨rfl, h4, hf4⟩; have hc4 := h4.ro.cell)
    | (go_at_call 27; (with_reducible refine (add1_c h4 _ ?hm).mono ?_); (case hm => ((try simp only [ByteArray.size_append] at HM ⊢); (try simp only [ByteArray.size, str, List.size_toArray, List.length_cons, List.length_nil] at HM ⊢); omega)); rintro e w5 ⟨rfl, h5, hf5⟩; have hc5 := h5.ro.cell)
    | (go_at_call 52; (with_reducible refine (HK _ _ h5 ?hm).mono ?_); (case hm => ((try simp only [ByteArray.size_append] at HM ⊢); (try simp only [ByteArray.size, str, List.size_toArray, List.length_cons, List.length_nil] at HM ⊢); omega)); rintro e w6 ⟨rfl, h6, hf6⟩; have hc6 := h6.ro.cell))
    go_end0
    exact ⟨rfl, by rw [E.out]; simpa only [ByteArray.append_assoc, ByteArray.append_empty, ByteArray.empty_append, str] using h6, hf1.trans (hf2.trans (hf3.trans (hf4.trans (hf5.trans (hf6)))))⟩
theorem drop_map_clause (l : List Node) (k v : Nat) : (l.map (clauseS · k)).drop v = (l.drop v).map (clauseS · k) := by rw [List.map_drop]
theorem switch_facts {n : Node} (h0 : n.kind = 13) (hB : stmtB n = true) : (n.n = 0 ∨ n.n = 1) ∧ n.n ≤ n.kids.length ∧ (n.kids.take n.n.toNat).all exprB = true ∧ (∀ c ∈ n.kids.drop n.n.toNat, clauseB 14 c = true) ∧ (∀ c ∈ n.kids.drop n.n.toNat, lastB c.kids = true) := by
  rw [stmtB_eq] at hB
  simp only [h0, show ((13 : Int) == 4) = false from rfl, show ((13 : Int) == 5) = false from rfl, show ((13 : Int) == 11) = false from rfl, show ((13 : Int) == 12) = false from rfl, beq_self_eq_true, if_true, Bool.false_eq_true, if_false, Bool.and_eq_true, Bool.or_eq_true, decide_eq_true_eq, beq_iff_eq] at hB
  obtain ⟨⟨⟨⟨⟨⟨b1, b2⟩, _⟩, b4⟩, b5⟩, _⟩, b8⟩ := hB
  refine ⟨b1, b2, exprs_all b4, by simpa using b5, ?_⟩
  have : lastsB (n.kids.drop n.n.toNat) = true := by
    rcases b1 with q | q
    · rw [q] at b8 ⊢
      simpa using b8
    · rw [q] at b8 ⊢
      rw [if_neg (by decide)] at b8
      show lastsB (n.kids.drop 1) = true
      match hl : n.kids with
      | [] => rfl
      | x :: r => rw [hl] at b8; exact b8
  rw [lastsB_all] at this
  simpa using this
set_option maxHeartbeats 40000000 in
set_option maxRecDepth 100000 in
theorem ws_switch {w0 w : World} {B g m k : Nat} {s : ByteArray} {a : Addr} {n : Node} (he : Env w0 B) (ih : WStmtIH w0 B g m) (hn : NodeAt w0 B a n) (hms : n.size ≤ m + 1) (hkd : k + n.size ≤ 2097152) (hB : stmtB n = true) (h0 : n.kind = 13) (h : St w0 B g (some (k : Int)) s w) (hm : s.size + (rowS n k).size ≤ 140737488355328) :
    Calls Tryz.prog 52 #[.pointer (some ⟨g, 0, none⟩), .pointer (some a)] w fun e w' => e = .returned (.tuple #[]) ∧ St w0 B g (some (k : Int)) (s ++ rowS n k) w' ∧ Wf g w w' := by
  obtain ⟨A, c, hb, c0, c1, c2, c3, c7, hk⟩ := hn.open_
  have hr := h.ro
  have hc := hr.cell
  have hl := hk.le
  have hl' := hk.le'
  have hz := hr.lt hb
  obtain ⟨b1, b2, b4, hcl, hla⟩ := switch_facts h0 hB
  rcases b1 with hv | hv
  · rw [hv] at hcl hla c2
    simp only [show (0 : Int).toNat = 0 from rfl, List.drop_zero] at hcl hla
    have HC := Lib.hid (fun (s : ByteArray) (w : World) (h : St w0 B g (some (k : Int)) s w) hm => wclauses_c (w := w) (s := s) he hk (by omega) (fun c hc => clause_ok (.inl rfl) (hcl c hc)) (fun c hc A cc hkk => by
      have := Node.size_kid (id hc)
      exact lastis_ih ih hkk (hla c hc) (by omega) (by omega)) h hm)
    have E : rowS n k = str [115, 119, 105, 116, 99, 104, 32] ++ (str [123, 10] ++ partsS (n.kids.map (clauseS · k)) ++ tabsS k ++ str [125]) := by
      rw [rowS_eq]
      simp [h0, hv, ByteArray.append_assoc]
    generalize str [123, 10] ++ partsS (n.kids.map (clauseS · k)) ++ tabsS k ++ str [125] = J at HC E
    have hq2 : (0 : Int) ≤ n.kids.length := by omega
    have HV := Lib.hid hv
    clear hcl hla b2 b4 hv
    have HM := hm
    rw [E] at HM
    have E := Lib.hid E
    clear hm hB ih hkd

    go_enter Tryz.func52, Tryz.ntmps52
    go_wp2_with (first
    | (go_at_call 27; (with_reducible refine (add1_c h _ ?hm).mono ?_); (case hm => ((try simp only [ByteArray.size_append] at HM ⊢); (try simp only [ByteArray.size, str, List.size_toArray, List.length_cons, List.length_nil] at HM ⊢); omega)); rintro e w1 ⟨rfl, h1, hf1⟩; have hc1 := h1.ro.cell))
    have hD := h1.drew
    have hcD := hD.ro.cell
    go_still_tail 10, (by kernel_rfl)
    go_wp2_with (first
    | (go_at_call 70; (with_reducible refine (HC.out _ _ hD ?hm).mono ?_); (case hm => ((try simp only [ByteArray.size_append] at HM ⊢); (try simp only [ByteArray.size, str, List.size_toArray, List.length_cons, List.length_nil] at HM ⊢); omega)); rintro e w2 ⟨rfl, h2, hf2⟩; have hc2 := h2.ro.cell))
    go_end0
    exact ⟨rfl, by rw [E.out]; simpa only [ByteArray.append_assoc, str] using h2, hf1.drew.trans hf2⟩
  · rw [hv] at hcl hla c2 b2 b4
    simp only [show (1 : Int).toNat = 1 from rfl] at hcl hla b4
    obtain ⟨ad, rfl⟩ := hk.some_ (by omega)
    have hl0 : 0 < n.kids.length := by omega
    have HK := wexpr_c (g := g) (d := some (k : Int)) he (hk.at_ ad rfl 0 hl0) (by
      rw [List.all_eq_true] at b4
      refine b4 _ ?_
      match n.kids, hl0 with
      | x :: r, _ => simp)
    have E : rowS n k = str [115, 119, 105, 116, 99, 104, 32] ++ toldS n.kids[0] ++ str [32] ++ (str [123, 10] ++ partsS ((n.kids.drop 1).map (clauseS · k)) ++ tabsS k ++ str [125]) := by
      rw [rowS_eq, drop_map_clause]
      simp [h0, hv, strAt, hl0, ByteArray.append_assoc]
    generalize n.kids[0] = k0 at HK E
    simp only [Nat.zero_mul] at HK
    replace HK : Adds 68 w0 B g (some (k : Int)) ad (toldS k0) := HK
    have hlenD : (n.kids.drop 1).length = n.kids.length - 1 := by simp
    have hq2 : (1 : Int) ≤ n.kids.length := by omega
    by_cases hcap : c = 1
    · have hkdd : KidsAt w0 B (some ad) (n.kids.drop 1) 0 := by
        have h : n.kids.drop 1 = [] := List.eq_nil_of_length_eq_zero (by omega)
        rw [h]
        exact KidsAt.nil_ _ (by omega)
      have HC := Lib.hid (fun (s : ByteArray) (w : World) (h : St w0 B g (some (k : Int)) s w) hm => wclauses_c (w := w) (s := s) he hkdd (by omega) (fun c hc => clause_ok (.inl rfl) (hcl c hc)) (fun c hc A cc hkk => by
        have := Node.size_kid (List.mem_of_mem_drop hc)
        exact lastis_ih ih hkk (hla c hc) (by omega) (by omega)) h hm)
      have HC := HC.out
      rw [show (n.kids.drop 1).length = 0 from by omega] at HC
      have HC := Lib.hid HC
      generalize str [123, 10] ++ partsS ((n.kids.drop 1).map (clauseS · k)) ++ tabsS k ++ str [125] = J at HC E
      have HV := Lib.hid hv
      have hlen1 : n.kids.length = 1 := by omega
      subst hcap
      clear hcl hla b2 b4 hv hlenD hkdd hk hl hl0
      rw [hlen1] at c7 hq2
      have HL1 := Lib.hid hlen1
      clear hlen1
      have HM := hm
      rw [E] at HM
      have E := Lib.hid E
      clear hm hB ih hkd

      go_enter Tryz.func52, Tryz.ntmps52
      go_wp2_with (first
    | (go_at_call 27; (with_reducible refine (add1_c h _ ?hm).mono ?_); (case hm => ((try simp only [ByteArray.size_append] at HM ⊢); (try simp only [ByteArray.size, str, List.size_toArray, List.length_cons, List.length_nil] at HM ⊢); omega)); rintro e w1 ⟨rfl, h1, hf1⟩; have hc1 := h1.ro.cell)
    | (go_at_call 68; (with_reducible refine (HK _ _ h1 ?hm).mono ?_); (case hm => ((try simp only [ByteArray.size_append] at HM ⊢); (try simp only [ByteArray.size, str, List.size_toArray, List.length_cons, List.length_nil] at HM ⊢); omega)); rintro e w2 ⟨rfl, h2, hf2⟩; have hc2 := h2.ro.cell)
    | (go_at_call 27; (with_reducible refine (add1_c h2 _ ?hm).mono ?_); (case hm => ((try simp only [ByteArray.size_append] at HM ⊢); (try simp only [ByteArray.size, str, List.size_toArray, List.length_cons, List.length_nil] at HM ⊢); omega)); rintro e w3 ⟨rfl, h3, hf3⟩; have hc3 := h3.ro.cell))
      have hD := h3.drew
      have hcD := hD.ro.cell
      go_still_tail 10, (by kernel_rfl)
      go_wp2_with (first
    | (go_at_call 70; (with_reducible refine (HC.out _ _ hD ?hm).mono ?_); (case hm => ((try simp only [ByteArray.size_append] at HM ⊢); (try simp only [ByteArray.size, str, List.size_toArray, List.length_cons, List.length_nil] at HM ⊢); omega)); rintro e w4 ⟨rfl, h4, hf4⟩; have hc4 := h4.ro.cell))
      go_end0
      exact ⟨rfl, by rw [E.out]; simpa only [ByteArray.append_assoc, str] using h4, (hf1.trans (hf2.trans hf3)).drew.trans hf4⟩
    · have hkdd := hk.drop1 (by have := hk.le; omega)
      have HC := Lib.hid (fun (s : ByteArray) (w : World) (h : St w0 B g (some (k : Int)) s w) hm => wclauses_c (w := w) (s := s) he hkdd (by omega) (fun c hc => clause_ok (.inl rfl) (hcl c hc)) (fun c hc A cc hkk => by
        have := Node.size_kid (List.mem_of_mem_drop hc)
        exact lastis_ih ih hkk (hla c hc) (by omega) (by omega)) h hm)
      have HC := HC.out
      rw [hlenD] at HC
      have HC := Lib.hid HC
      generalize str [123, 10] ++ partsS ((n.kids.drop 1).map (clauseS · k)) ++ tabsS k ++ str [125] = J at HC E
      have HV := Lib.hid hv
      have hc1c : 1 ≤ c := by omega
      clear hcl hla b2 b4 hv hlenD hkdd hk
      have HM := hm
      rw [E] at HM
      have E := Lib.hid E
      clear hm hB ih hkd

      go_enter Tryz.func52, Tryz.ntmps52
      go_wp2_with (first
    | (go_at_call 27; (with_reducible refine (add1_c h _ ?hm).mono ?_); (case hm => ((try simp only [ByteArray.size_append] at HM ⊢); (try simp only [ByteArray.size, str, List.size_toArray, List.length_cons, List.length_nil] at HM ⊢); omega)); rintro e w1 ⟨rfl, h1, hf1⟩; have hc1 := h1.ro.cell)
    | (go_at_call 68; (with_reducible refine (HK _ _ h1 ?hm).mono ?_); (case hm => ((try simp only [ByteArray.size_append] at HM ⊢); (try simp only [ByteArray.size, str, List.size_toArray, List.length_cons, List.length_nil] at HM ⊢); omega)); rintro e w2 ⟨rfl, h2, hf2⟩; have hc2 := h2.ro.cell)
    | (go_at_call 27; (with_reducible refine (add1_c h2 _ ?hm).mono ?_); (case hm => ((try simp only [ByteArray.size_append] at HM ⊢); (try simp only [ByteArray.size, str, List.size_toArray, List.length_cons, List.length_nil] at HM ⊢); omega)); rintro e w3 ⟨rfl, h3, hf3⟩; have hc3 := h3.ro.cell))
      have hD := h3.drew
      have hcD := hD.ro.cell
      go_still_tail 10, (by kernel_rfl)
      go_wp2_with (first
    | (go_at_call 70; (with_reducible refine (HC.out _ _ hD ?hm).mono ?_); (case hm => ((try simp only [ByteArray.size_append] at HM ⊢); (try simp only [ByteArray.size, str, List.size_toArray, List.length_cons, List.length_nil] at HM ⊢); omega)); rintro e w4 ⟨rfl, h4, hf4⟩; have hc4 := h4.ro.cell))
      go_end0
      exact ⟨rfl, by rw [E.out]; simpa only [ByteArray.append_assoc, str] using h4, (hf1.trans (hf2.trans hf3)).drew.trans hf4⟩
theorem wstmt_ih {w0 : World} {B g : Nat} (he : Env w0 B) : ∀ m, WStmtIH w0 B g m
  | 0 => fun n a k _ _ hm => absurd n.size_pos (by omega)
  | m + 1 => fun n a k hn hB hms hkd s w h hm => by
    have ih := wstmt_ih (g := g) he m
    by_cases q4 : n.kind = 4
    · exact ws_block he ih hn hms hkd hB q4 h hm
    by_cases q5 : n.kind = 5
    · exact ws_var he ih hn hms hkd hB q5 h hm
    by_cases q11 : n.kind = 11
    · exact ws_if he ih hn hms hkd hB q11 h hm
    by_cases q12 : n.kind = 12
    · exact ws_for he ih hn hms hkd hB q12 h hm
    by_cases q13 : n.kind = 13
    · exact ws_switch he ih hn hms hkd hB q13 h hm
    by_cases q15 : n.kind = 15
    · exact ws_select he ih hn hms hkd hB q15 h hm
    by_cases q17 : n.kind = 17
    · exact ws_go he ih hn hms hkd hB q17 h hm
    by_cases q18 : n.kind = 18
    · exact ws_return he ih hn hms hkd hB q18 h hm
    by_cases q19 : n.kind = 19
    · exact ws_break he ih hn hms hkd hB q19 h hm
    by_cases q20 : n.kind = 20
    · exact ws_continue he ih hn hms hkd hB q20 h hm
    · refine ws_simple he ih hn hms hkd hB ?_ h hm
      rw [stmtB_eq] at hB
      simpa [q4, q5, q11, q12, q13, q15, q17, q18, q19, q20] using hB
theorem wblock_all {w0 : World} {B g : Nat} {a : Addr} {b : Node} {k : Nat} (he : Env w0 B) (hn : NodeAt w0 B a b) (hb : blockB b = true) (hk : k + b.size ≤ 2097152) : Adds 28 w0 B g (some (k : Int)) a (blockS b k) :=
  wblock_ih (wstmt_ih he b.size) hn hb (by omega) hk
end Go.Proofs.YtjdeomenioagdaaGreatDoor
