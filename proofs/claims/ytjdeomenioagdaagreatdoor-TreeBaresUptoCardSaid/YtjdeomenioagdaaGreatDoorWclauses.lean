/- Cases and arms are written, by the program. -/
import Derived.Test.YtjdeomenioagdaaGreatDoorWhead
set_option linter.unusedVariables false
set_option linter.unusedSimpArgs false
namespace Go.Proofs.YtjdeomenioagdaaGreatDoor
open Go.RowKit
theorem exprs_adds {w0 : World} {B g : Nat} {d : Option Int} {A : Option Addr} {l : List Node} {c : Nat} (he : Env w0 B) (hk : KidsAt w0 B A l c) (hall : l.all exprB = true) :
    ∀ ad, A = some ad → ∀ i (h : i < l.length), Adds 68 w0 B g d (ad.add (i * 8)) (toldS l[i]) := fun ad hA i hi =>
  wexpr_c he (hk.at_ ad hA i hi) (List.all_eq_true.1 hall _ (List.getElem_mem hi))
/-- What the writer needs of a clause. -/
structure ClauseOk (n : Node) : Prop where
  pos : 1 ≤ n.kids.length
  cases : n.n = 1 ∨ (n.n = 0 ∧ n.kind = 14 ∧ n.kids.dropLast.all exprB = true) ∨ (n.n = 0 ∧ n.kind = 16 ∧ ∀ k, n.kids[0]? = some k → simpleB k = true)
def bodyAt (n : Node) (d : Nat) : ByteArray := strAt (n.kids.map (bodyS · (d + 1))) (n.kids.length - 1)
theorem clauses_step (l : List Node) (k i : Nat) (h : i < l.length) : partsS ((l.map (clauseS · k)).take (i + 1)) = partsS ((l.map (clauseS · k)).take i) ++ (tabsS k ++ choiceS l[i] ++ str [58, 10] ++ bodyAt l[i] k) := by
  rw [partsS_take _ _ (by simpa using h), List.getElem_map, clauseS_eq, bodyAt]
def LastIs (w0 : World) (B g : Nat) (k : Nat) (n : Node) (A : Option Addr) : Prop := ∀ ad, A = some ad → ∀ (q : Nat), n.kids.length = q + 1 → ∃ A' c' l, w0.cell? ⟨(ad.add (q * 8)).block, (ad.add (q * 8)).off + 7, none⟩ = some (.slice A' l c') ∧ (ad.add (q * 8)).block < B ∧
  (∀ s w, St w0 B g (some (k : Int)) s w → s.size + (bodyAt n k).size ≤ 140737488355328 → Calls Tryz.prog 41 #[.pointer (some ⟨g, 0, none⟩), .slice A' l c'] w fun e w' => e = .returned (.tuple #[]) ∧ St w0 B g (some (k : Int)) (s ++ bodyAt n k) w' ∧ Wf g w w')
set_option maxHeartbeats 40000000 in
set_option maxRecDepth 100000 in
theorem wclauses_c {w0 w : World} {B g : Nat} {s : ByteArray} {A : Option Addr} {l : List Node} {c k : Nat} (he : Env w0 B) (hk : KidsAt w0 B A l c) (hkd : k ≤ 2097152)
    (hok : ∀ n ∈ l, ClauseOk n) (hlast : ∀ n ∈ l, ∀ A c, KidsAt w0 B A n.kids c → LastIs w0 B g k n A)
    (h : St w0 B g (some (k : Int)) s w) (hm : s.size + (str [123, 10] ++ partsS (l.map (clauseS · k)) ++ tabsS k ++ str [125]).size ≤ 140737488355328) :
    Calls Tryz.prog 70 #[.pointer (some ⟨g, 0, none⟩), .slice A l.length c] w fun e w' => e = .returned (.tuple #[]) ∧ St w0 B g (some (k : Int)) (s ++ (str [123, 10] ++ partsS (l.map (clauseS · k)) ++ tabsS k ++ str [125])) w' ∧ Wf g w w' := by
  have hl := hk.le
  have hl' := hk.le'
  have HOK := Lib.hid hok
  have HLA := Lib.hid hlast
  clear hok hlast
  have HM0 : s.size + 2 ≤ 140737488355328 ∧ s.size + (2 + (partsS (l.map (clauseS · k))).size + (tabsS k).size + 1) ≤ 140737488355328 := by
    simp only [ByteArray.size_append, str_size, List.length_cons, List.length_nil] at hm
    omega
  obtain ⟨HM1, HM2⟩ := HM0
  clear hm
  go_enter Tryz.func70, Tryz.ntmps70
  go_wp2_with (go_at_call 27; (with_reducible refine (add1_c h _ ?hm).mono ?_); (case hm => exact HM1); rintro e wq ⟨rfl, hq, hfq⟩)
  go_loopw [4, 5, 6, 12] (fun _ _ _ u wr => ∃ i : Nat, i ≤ l.length ∧ u = .int .i64 i ∧ St w0 B g (some (k : Int)) (s ++ str [123, 10] ++ partsS ((l.map (clauseS · k)).take i)) wr ∧ Wf g w wr) (fun _ _ _ u _ => (l.length - (intOf u).toNat : Nat))
  case atStart => exact ⟨0, by omega, rfl, by simpa [partsS, str] using hq, hfq⟩
  case round =>
    obtain ⟨i, hil, rfl, hst, hwf⟩ := hrel
    by_cases hlt : i < l.length
    · obtain ⟨ad, rfl⟩ := hk.some_ (by omega)
      have hn := kid_at hk hlt
      have ok := HOK.out _ (List.getElem_mem hlt)
      have hz := partsS_size (l.map (clauseS · k)) (i + 1)
      have hstep := clauses_step l k i hlt
      rw [hstep] at hz
      have HN := Lib.hid hstep
      have HM : s.size + (2 + (partsS ((l.map (clauseS · k)).take i) ++ (tabsS k ++ choiceS l[i] ++ str [58, 10] ++ bodyAt l[i] k)).size) ≤ 140737488355328 := by omega
      have hb0 := HLA.out _ (List.getElem_mem hlt)
      clear hz hstep HM1 HM2
      generalize partsS ((l.map (clauseS · k)).take i) = J at hst HN HM
      generalize l[i] = n at hn ok HN HM hb0
      clear hk
      have hpos := ok.pos
      have hcs := ok.cases
      clear ok
      obtain ⟨A', c', hb, c0, c1, c2, c3, c7, hk'⟩ := hn.open_
      obtain ⟨ad2, rfl⟩ := hk'.some_ (by omega)
      obtain ⟨q, hq'⟩ : ∃ q, n.kids.length = q + 1 := ⟨n.kids.length - 1, by omega⟩
      obtain ⟨A3, c3', l3, x3, xb3, HL3⟩ := hb0 _ _ hk' ad2 rfl q hq'
      have HL3 := Lib.hid HL3
      have hl2 := hk'.le
      have hl2' := hk'.le'
      have hq2 : q + 1 ≤ c' := by omega
      have hq3 : q < c' := by omega
      have hq4 : q ≤ c' := by omega
      have hq5 : q ≤ 1048576 := by omega
      have hcq := hst.ro.cell
      have hrq := hst.ro
      have hz := hrq.lt hb
      have hz3 := hrq.lt xb3
      clear hb0
      rw [hq'] at c7
      rcases hcs with h0 | ⟨h0, h1, h2⟩ | ⟨h0, h1, h2⟩
      · have hch : choiceS n = str [100, 101, 102, 97, 117, 108, 116] := by simp [choiceS, h0]
        rw [hch] at HN HM
        have HN := Lib.hid HN
        rw [h0] at c2
        have HQ := Lib.hid hq'
        clear hch hk' hn hpos hq'
        go_wp2_with (first
    | (go_at_call 42; (with_reducible refine (tabsz_c hst hkd ?hm).mono ?_); (case hm => ((try simp only [ByteArray.size_append] at HM ⊢); (try simp only [ByteArray.size, str, List.size_toArray, List.length_cons, List.length_nil] at HM ⊢); omega)); rintro e w1 ⟨rfl, h1, hf1⟩; have hc1 := h1.ro.cell)
    | (go_at_call 27; (with_reducible refine (add1_c h1 _ ?hm).mono ?_); (case hm => ((try simp only [ByteArray.size_append] at HM ⊢); (try simp only [ByteArray.size, str, List.size_toArray, List.length_cons, List.length_nil] at HM ⊢); omega)); rintro e w2 ⟨rfl, h2, hf2⟩; have hc2 := h2.ro.cell)
    | (go_at_call 27; (with_reducible refine (add1_c h2 _ ?hm).mono ?_); (case hm => ((try simp only [ByteArray.size_append] at HM ⊢); (try simp only [ByteArray.size, str, List.size_toArray, List.length_cons, List.length_nil] at HM ⊢); omega)); rintro e w3 ⟨rfl, h3, hf3⟩; have hc3 := h3.ro.cell)
    | (go_at_call 41; (with_reducible refine (HL3.out _ _ h3 ?hm).mono ?_); (case hm => ((try simp only [ByteArray.size_append] at HM ⊢); (try simp only [ByteArray.size, str, List.size_toArray, List.length_cons, List.length_nil] at HM ⊢); omega)); rintro e w4 ⟨rfl, h4, hf4⟩; have hc4 := h4.ro.cell))
        exact ⟨⟨i + 1, by omega, by go_num, by rw [HN.out]; simpa only [ByteArray.append_assoc, str] using h4, hwf.trans (hf1.trans (hf2.trans (hf3.trans hf4)))⟩, by simp [intOf]; omega⟩
      · have hch : choiceS n = str [99, 97, 115, 101, 32] ++ listS (n.kids.take q) := by simp [choiceS, h0, h1, List.dropLast_eq_take, hq']
        have hall : (n.kids.take q).all exprB = true := by rw [List.dropLast_eq_take, hq'] at h2; exact h2
        have hln : (n.kids.take q).length = q := by rw [List.length_take]; omega
        have HL : Hid (∀ s w, St w0 B g (some (k : Int)) s w → s.size + (listS (n.kids.take q)).size ≤ 140737488355328 → Calls Tryz.prog 117 #[.pointer (some ⟨g, 0, none⟩), .slice (some ad2) q c'] w fun e w' => e = .returned (.tuple #[]) ∧ St w0 B g (some (k : Int)) (s ++ listS (n.kids.take q)) w' ∧ Wf g w w') := by
          intro s w h hm
          have := list_c (hk'.take q) (exprs_adds he (hk'.take q) hall) h hm
          rw [hln] at this
          exact this
        rw [hch] at HN HM
        have HN := Lib.hid HN
        rw [h0] at c2
        rw [h1] at c0
        have HQ := Lib.hid hq'
        clear hch hk' hn hpos hq' hall hln h2
        go_wp2_with (first
    | (go_at_call 42; (with_reducible refine (tabsz_c hst hkd ?hm).mono ?_); (case hm => ((try simp only [ByteArray.size_append] at HM ⊢); (try simp only [ByteArray.size, str, List.size_toArray, List.length_cons, List.length_nil] at HM ⊢); omega)); rintro e w1 ⟨rfl, h1, hf1⟩; have hc1 := h1.ro.cell)
    | (go_at_call 27; (with_reducible refine (add1_c h1 _ ?hm).mono ?_); (case hm => ((try simp only [ByteArray.size_append] at HM ⊢); (try simp only [ByteArray.size, str, List.size_toArray, List.length_cons, List.length_nil] at HM ⊢); omega)); rintro e w2 ⟨rfl, h2, hf2⟩; have hc2 := h2.ro.cell)
    | (go_at_call 117; (with_reducible refine (HL.out _ _ h2 ?hm).mono ?_); (case hm => ((try simp only [ByteArray.size_append] at HM ⊢); (try simp only [ByteArray.size, str, List.size_toArray, List.length_cons, List.length_nil] at HM ⊢); omega)); rintro e w3 ⟨rfl, h3, hf3⟩; have hc3 := h3.ro.cell)
    | (go_at_call 27; (with_reducible refine (add1_c h3 _ ?hm).mono ?_); (case hm => ((try simp only [ByteArray.size_append] at HM ⊢); (try simp only [ByteArray.size, str, List.size_toArray, List.length_cons, List.length_nil] at HM ⊢); omega)); rintro e w4 ⟨rfl, h4, hf4⟩; have hc4 := h4.ro.cell)
    | (go_at_call 41; (with_reducible refine (HL3.out _ _ h4 ?hm).mono ?_); (case hm => ((try simp only [ByteArray.size_append] at HM ⊢); (try simp only [ByteArray.size, str, List.size_toArray, List.length_cons, List.length_nil] at HM ⊢); omega)); rintro e w5 ⟨rfl, h5, hf5⟩; have hc5 := h5.ro.cell))
        exact ⟨⟨i + 1, by omega, by go_num, by rw [HN.out]; simpa only [ByteArray.append_assoc, str] using h5, hwf.trans (hf1.trans (hf2.trans (hf3.trans (hf4.trans hf5))))⟩, by simp [intOf]; omega⟩
      · have hl0 : 0 < n.kids.length := by omega
        have hch : choiceS n = str [99, 97, 115, 101, 32] ++ shortS n.kids[0] := by simp [choiceS, h0, h1, shortAt, hl0]
        have HS := wsimple_c (g := g) (d := some (k : Int)) he (hk'.at_ ad2 rfl 0 hl0) (.inl (h2 _ (List.getElem?_eq_getElem hl0)))
        generalize n.kids[0] = k0 at HS hch
        simp only [Nat.zero_mul] at HS
        replace HS : Adds 71 w0 B g (some (k : Int)) ad2 (shortS k0) := HS
        rw [hch] at HN HM
        have HN := Lib.hid HN
        rw [h0] at c2
        rw [h1] at c0
        have HQ := Lib.hid hq'
        clear hch hk' hn hpos hq' h2
        go_wp2_with (first
    | (go_at_call 42; (with_reducible refine (tabsz_c hst hkd ?hm).mono ?_); (case hm => ((try simp only [ByteArray.size_append] at HM ⊢); (try simp only [ByteArray.size, str, List.size_toArray, List.length_cons, List.length_nil] at HM ⊢); omega)); rintro e w1 ⟨rfl, h1, hf1⟩; have hc1 := h1.ro.cell)
    | (go_at_call 27; (with_reducible refine (add1_c h1 _ ?hm).mono ?_); (case hm => ((try simp only [ByteArray.size_append] at HM ⊢); (try simp only [ByteArray.size, str, List.size_toArray, List.length_cons, List.length_nil] at HM ⊢); omega)); rintro e w2 ⟨rfl, h2, hf2⟩; have hc2 := h2.ro.cell)
    | (go_at_call 71; (with_reducible refine (HS _ _ h2 ?hm).mono ?_); (case hm => ((try simp only [ByteArray.size_append] at HM ⊢); (try simp only [ByteArray.size, str, List.size_toArray, List.length_cons, List.length_nil] at HM ⊢); omega)); rintro e w3 ⟨rfl, h3, hf3⟩; have hc3 := h3.ro.cell)
    | (go_at_call 27; (with_reducible refine (add1_c h3 _ ?hm).mono ?_); (case hm => ((try simp only [ByteArray.size_append] at HM ⊢); (try simp only [ByteArray.size, str, List.size_toArray, List.length_cons, List.length_nil] at HM ⊢); omega)); rintro e w4 ⟨rfl, h4, hf4⟩; have hc4 := h4.ro.cell)
    | (go_at_call 41; (with_reducible refine (HL3.out _ _ h4 ?hm).mono ?_); (case hm => ((try simp only [ByteArray.size_append] at HM ⊢); (try simp only [ByteArray.size, str, List.size_toArray, List.length_cons, List.length_nil] at HM ⊢); omega)); rintro e w5 ⟨rfl, h5, hf5⟩; have hc5 := h5.ro.cell))
        exact ⟨⟨i + 1, by omega, by go_num, by rw [HN.out]; simpa only [ByteArray.append_assoc, str] using h5, hwf.trans (hf1.trans (hf2.trans (hf3.trans (hf4.trans hf5))))⟩, by simp [intOf]; omega⟩
    · have hi : i = (l.map (clauseS · k)).length := by simp; omega
      subst hi
      rw [List.take_length] at hst
      have HM : s.size + (2 + (partsS (l.map (clauseS · k))).size + (tabsS k).size + 1) ≤ 140737488355328 := HM2
      generalize hJ : partsS (l.map (clauseS · k)) = J at hst HM
      have HJ := Lib.hid hJ
      clear HM1 HM2 hJ
      go_wp2_with (first
    | (go_at_call 42; (with_reducible refine (tabsz_c hst hkd ?hm).mono ?_); (case hm => ((try simp only [ByteArray.size_append] at HM ⊢); (try simp only [ByteArray.size, str, List.size_toArray, List.length_cons, List.length_nil] at HM ⊢); omega)); rintro e w1 ⟨rfl, h1, hf1⟩; have hc1 := h1.ro.cell)
    | (go_at_call 27; (with_reducible refine (add1_c h1 _ ?hm).mono ?_); (case hm => ((try simp only [ByteArray.size_append] at HM ⊢); (try simp only [ByteArray.size, str, List.size_toArray, List.length_cons, List.length_nil] at HM ⊢); omega)); rintro e w2 ⟨rfl, h2, hf2⟩; have hc2 := h2.ro.cell))
      go_end0
      exact ⟨rfl, by rw [HJ.out]; simpa only [ByteArray.append_assoc, str] using h2, hwf.trans (hf1.trans hf2)⟩
end Go.Proofs.YtjdeomenioagdaaGreatDoor
