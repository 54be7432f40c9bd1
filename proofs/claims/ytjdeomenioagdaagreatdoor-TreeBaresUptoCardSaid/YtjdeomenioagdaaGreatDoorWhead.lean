/- The heads of loops are written, by the program. -/
import Derived.Test.YtjdeomenioagdaaGreatDoorWlines
import Derived.StillTailTactics
import Derived.Deep.RegionWith
set_option linter.unusedVariables false
set_option linter.unusedSimpArgs false
namespace Go.Proofs.YtjdeomenioagdaaGreatDoor
open Go.RowKit
theorem exprs_all {l : List Node} (h : exprsB false l = true) : l.all exprB = true := by rw [exprsB_no] at h; exact h
theorem simple_cases (n : Node) (h : simpleB n = true) : (n.kind = 6 ∨ n.kind = 7) ∧ (∃ v : Nat, n.n = (v : Int) ∧ 1 ≤ v ∧ v ≤ 2 ∧ n.kids.length = v + 1 ∧ (n.kids.take v).all targetB = true ∧ ∀ k, n.kids[v]? = some k → exprB k = true) ∨
    (n.kind = 8 ∧ n.kids.length = 1 ∧ (n.n = 1 ∨ n.n = -1)) ∨ (n.kind = 9 ∧ n.kids.length = 2 ∧ n.kids.all exprB = true) ∨ (n.kind = 10 ∧ n.kids.length = 1 ∧ n.kids.all exprB = true) := by
  unfold simpleB at h
  by_cases h6 : (n.kind == 6 || n.kind == 7) = true
  · left
    rw [if_pos h6] at h
    refine ⟨by simpa using h6, ?_⟩
    unfold letsB at h
    simp only [Bool.and_eq_true] at h
    obtain ⟨⟨⟨⟨⟨⟨h1, h2⟩, _⟩, h4⟩, h5⟩, _⟩, _⟩ := h
    have hx : n.n = 1 ∨ n.n = 2 := by simpa using h1
    have hl : (n.kids.length : Int) = n.n + 1 := by simpa using h2
    refine ⟨n.n.toNat, by omega, by omega, by omega, by omega, h4, fun k hk => ?_⟩
    simpa [kidB, hk] using h5
  · rw [if_neg h6] at h
    right
    by_cases h8 : n.kind = 8
    · left
      simp [h8] at h
      exact ⟨h8, h.1.1.2, h.1.1.1⟩
    right
    by_cases h9 : n.kind = 9
    · left
      simp [h9] at h
      exact ⟨h9, h.1.2, exprs_all h.1.1⟩
    right
    by_cases h10 : n.kind = 10
    · simp [h10, kidB] at h
      refine ⟨h10, h.1.1, ?_⟩
      obtain ⟨x, hx⟩ := List.length_eq_one_iff.1 h.1.1
      have h3 := h.2
      rw [hx] at h3 ⊢
      simp at h3 ⊢
      exact h3.1
    · simp [h8, h9, h10] at h
theorem wsimple_c {w0 : World} {B g : Nat} {d : Option Int} {a : Addr} {n : Node} (he : Env w0 B) (hn : NodeAt w0 B a n) (hx : simpleB n = true ∨ n.kind = 0) : Adds 71 w0 B g d a (shortS n) := by
  intro s w h hm
  rcases hx with hx | hx
  · rcases simple_cases n hx with ⟨h0, v, h1, h2, h3, h4, h5, h6⟩ | ⟨h0, h1, h2⟩ | ⟨h0, h1, h2⟩ | ⟨h0, h1, h2⟩
    · exact wsimple_lets he hn h0 h1 h2 h3 h4 h5 h6 h hm
    · exact wsimple_step he hn h0 h1 h2 h hm
    · exact wsimple_send he hn h0 h1 h2 h hm
    · exact wsimple_do he hn h0 h1 h2 h hm
  · exact wsimple_none he hn hx h hm
set_option maxHeartbeats 40000000 in
set_option maxRecDepth 100000 in
theorem whead_0 {w0 w : World} {B g : Nat} {d : Option Int} {s : ByteArray} {a : Addr} {n : Node} (he : Env w0 B) (hn : NodeAt w0 B a n) (h0 : n.n = 0) (h : St w0 B g d s w) (hm : s.size + (headS n).size ≤ 140737488355328) :
    Calls Tryz.prog 69 #[.pointer (some ⟨g, 0, none⟩), .pointer (some a)] w fun e w' => e = .returned (.tuple #[]) ∧ St w0 B g d (s ++ headS n) w' ∧ Wf g w w' := by
  obtain ⟨A, c, hb, c0, c1, c2, c3, c7, hk⟩ := hn.open_
  have hr := h.ro
  have hc := hr.cell
  have hl := hk.le
  have hl' := hk.le'
  have hz := hr.lt hb
  have E : Hid (headS n = .empty) := by show _ = _; simp [headS, h0]
  rw [h0] at c2
  go_enter Tryz.func69, Tryz.ntmps69
  go_wp2_with fail
  go_end0
  exact ⟨rfl, by rw [E.out]; simpa using h, Wf.refl g w⟩
set_option maxHeartbeats 40000000 in
set_option maxRecDepth 100000 in
theorem whead_1 {w0 w : World} {B g : Nat} {d : Option Int} {s : ByteArray} {a : Addr} {n : Node} (he : Env w0 B) (hn : NodeAt w0 B a n) (h0 : n.n = 1) (h1 : n.kids.length = 2) (hx : ∀ k, n.kids[0]? = some k → exprB k = true) (h : St w0 B g d s w) (hm : s.size + (headS n).size ≤ 140737488355328) :
    Calls Tryz.prog 69 #[.pointer (some ⟨g, 0, none⟩), .pointer (some a)] w fun e w' => e = .returned (.tuple #[]) ∧ St w0 B g d (s ++ headS n) w' ∧ Wf g w w' := by
  obtain ⟨A, c, hb, c0, c1, c2, c3, c7, hk⟩ := hn.open_
  have hr := h.ro
  have hc := hr.cell
  have hl := hk.le
  have hl' := hk.le'
  have hz := hr.lt hb
  obtain ⟨ad, rfl⟩ := hk.some_ (by omega)
  have hl1 : 0 < n.kids.length := by omega
  have HK := wexpr_c (g := g) (d := d) he (hk.at_ ad rfl 0 hl1) (hx _ (List.getElem?_eq_getElem hl1))
  have E : headS n = toldS n.kids[0] ++ str [32] := by simp [headS, h0, strAt, hl1]
  generalize n.kids[0] = k at HK E
  simp only [Nat.zero_mul] at HK
  replace HK : Adds 68 w0 B g d ad (toldS k) := HK
  have HM := hm
  rw [E] at HM
  have E := Lib.hid E
  have HH := Lib.hid h1
  clear hx hm h1
  rw [h0] at c2
  go_enter Tryz.func69, Tryz.ntmps69
  go_wp2_with (first
    | (go_at_call 68; (with_reducible refine (HK _ _ h ?hm).mono ?_); (case hm => ((try simp only [ByteArray.size_append] at HM ⊢); (try simp only [ByteArray.size, str, List.size_toArray, List.length_cons, List.length_nil] at HM ⊢); omega)); rintro e w1 ⟨rfl, h1, hf1⟩; have hc1 := h1.ro.cell)
    | (go_at_call 27; (with_reducible refine (add1_c h1 _ ?hm).mono ?_); (case hm => ((try simp only [ByteArray.size_append] at HM ⊢); (try simp only [ByteArray.size, str, List.size_toArray, List.length_cons, List.length_nil] at HM ⊢); omega)); rintro e w2 ⟨rfl, h2, hf2⟩; have hc2 := h2.ro.cell))
  go_end0
  exact ⟨rfl, by rw [E.out]; simpa only [ByteArray.append_assoc, ByteArray.append_empty, ByteArray.empty_append, str] using h2, hf1.trans (hf2)⟩
theorem add8 (ad : Addr) : ad.add (1 * 8) = fld ad 8 := add_fld ad (by omega)
theorem add16 (ad : Addr) : ad.add (2 * 8) = fld ad 16 := add_fld ad (by omega)
set_option maxHeartbeats 40000000 in
set_option maxRecDepth 100000 in
theorem whead_2 {w0 w : World} {B g : Nat} {d : Option Int} {s : ByteArray} {a : Addr} {n : Node} (he : Env w0 B) (hn : NodeAt w0 B a n) (h0 : n.n = 2) (h1 : n.kids.length = 4) (hx0 : ∀ k, n.kids[0]? = some k → simpleB k = true ∨ k.kind = 0) (hx1 : ∀ k, n.kids[1]? = some k → exprB k = true ∨ k.kind = 0) (hx2 : ∀ k, n.kids[2]? = some k → simpleB k = true ∨ k.kind = 0) (h : St w0 B g d s w) (hm : s.size + (headS n).size ≤ 140737488355328) :
    Calls Tryz.prog 69 #[.pointer (some ⟨g, 0, none⟩), .pointer (some a)] w fun e w' => e = .returned (.tuple #[]) ∧ St w0 B g d (s ++ headS n) w' ∧ Wf g w w' := by
  obtain ⟨A, c, hb, c0, c1, c2, c3, c7, hk⟩ := hn.open_
  have hr := h.ro
  have hc := hr.cell
  have hl := hk.le
  have hl' := hk.le'
  have hz := hr.lt hb
  obtain ⟨ad, rfl⟩ := hk.some_ (by omega)
  have hl0 : 0 < n.kids.length := by omega
  have hl1 : 1 < n.kids.length := by omega
  have hl2 : 2 < n.kids.length := by omega
  have HI := wsimple_c (g := g) (d := d) he (hk.at_ ad rfl 0 hl0) (hx0 _ (List.getElem?_eq_getElem hl0))
  have HJ := fun q => wexpr_c (g := g) (d := d) he (hk.at_ ad rfl 1 hl1) q
  have HK := wsimple_c (g := g) (d := d) he (hk.at_ ad rfl 2 hl2) (hx2 _ (List.getElem?_eq_getElem hl2))
  have hj := hk.at_ ad rfl 1 hl1
  have hq := hk.at_ ad rfl 2 hl2
  have hxj := hx1 _ (List.getElem?_eq_getElem hl1)
  have E : headS n = shortS n.kids[0] ++ str [59] ++ (if n.kids[1].kind != 0 then str [32] ++ toldS n.kids[1] else .empty) ++ str [59] ++ (if n.kids[2].kind != 0 then str [32] ++ shortS n.kids[2] else .empty) ++ str [32] := by
    simp [headS, h0, strAt, shortAt, kindAt, hl0, hl1, hl2]
  generalize n.kids[0] = k0 at HI E
  generalize n.kids[1] = k1 at HJ E hj hxj
  generalize n.kids[2] = k2 at HK E hq
  rw [add8] at hj HJ
  rw [add16] at hq HK
  simp only [Nat.zero_mul] at HI
  replace HI : Adds 71 w0 B g d ad (shortS k0) := HI
  obtain ⟨A1, c1', jb, j0, _⟩ := hj.open_
  obtain ⟨A2, c2', qb, q0, _⟩ := hq.open_
  have HH := Lib.hid h1
  clear hx0 hx1 hx2 h1 hj hq
  rw [h0] at c2
  have tj : ((k1.kind != 0) = true ∧ exprB k1 = true) ∨ (k1.kind != 0) = false := by
    by_cases z : k1.kind = 0
    · right; simp [z]
    · left; exact ⟨by simp [z], hxj.resolve_right z⟩
  have tk : (k2.kind != 0) = true ∨ (k2.kind != 0) = false := by cases (k2.kind != 0) <;> simp
  clear hxj
  rcases tj with ⟨pj, hxj⟩ | pj <;> rcases tk with pk | pk
  · have HJ' := HJ hxj
    rw [if_pos pj, if_pos pk] at E
    have HM := hm
    rw [E] at HM
    have E := Lib.hid E
    clear hm HJ hxj
    go_enter Tryz.func69, Tryz.ntmps69
    go_wp2_with (first
    | (go_at_call 71; (with_reducible refine (HI _ _ h ?hm).mono ?_); (case hm => ((try simp only [ByteArray.size_append] at HM ⊢); (try simp only [ByteArray.size, str, List.size_toArray, List.length_cons, List.length_nil] at HM ⊢); omega)); rintro e w1 ⟨rfl, h1, hf1⟩; have hc1 := h1.ro.cell)
    | (go_at_call 27; (with_reducible refine (add1_c h1 _ ?hm).mono ?_); (case hm => ((try simp only [ByteArray.size_append] at HM ⊢); (try simp only [ByteArray.size, str, List.size_toArray, List.length_cons, List.length_nil] at HM ⊢); omega)); rintro e w2 ⟨rfl, h2, hf2⟩; have hc2 := h2.ro.cell)
    | (go_at_call 27; (with_reducible refine (add1_c h2 _ ?hm).mono ?_); (case hm => ((try simp only [ByteArray.size_append] at HM ⊢); (try simp only [ByteArray.size, str, List.size_toArray, List.length_cons, List.length_nil] at HM ⊢); omega)); rintro e w3 ⟨rfl, h3, hf3⟩; have hc3 := h3.ro.cell)
    | (go_at_call 68; (with_reducible refine (HJ' _ _ h3 ?hm).mono ?_); (case hm => ((try simp only [ByteArray.size_append] at HM ⊢); (try simp only [ByteArray.size, str, List.size_toArray, List.length_cons, List.length_nil] at HM ⊢); omega)); rintro e w4 ⟨rfl, h4, hf4⟩; have hc4 := h4.ro.cell)
    | (go_at_call 27; (with_reducible refine (add1_c h4 _ ?hm).mono ?_); (case hm => ((try simp only [ByteArray.size_append] at HM ⊢); (try simp only [ByteArray.size, str, List.size_toArray, List.length_cons, List.length_nil] at HM ⊢); omega)); rintro e w5 ⟨rfl, h5, hf5⟩; have hc5 := h5.ro.cell)
    | (go_at_call 27; (with_reducible refine (add1_c h5 _ ?hm).mono ?_); (case hm => ((try simp only [ByteArray.size_append] at HM ⊢); (try simp only [ByteArray.size, str, List.size_toArray, List.length_cons, List.length_nil] at HM ⊢); omega)); rintro e w6 ⟨rfl, h6, hf6⟩; have hc6 := h6.ro.cell)
    | (go_at_call 71; (with_reducible refine (HK _ _ h6 ?hm).mono ?_); (case hm => ((try simp only [ByteArray.size_append] at HM ⊢); (try simp only [ByteArray.size, str, List.size_toArray, List.length_cons, List.length_nil] at HM ⊢); omega)); rintro e w7 ⟨rfl, h7, hf7⟩; have hc7 := h7.ro.cell)
    | (go_at_call 27; (with_reducible refine (add1_c h7 _ ?hm).mono ?_); (case hm => ((try simp only [ByteArray.size_append] at HM ⊢); (try simp only [ByteArray.size, str, List.size_toArray, List.length_cons, List.length_nil] at HM ⊢); omega)); rintro e w8 ⟨rfl, h8, hf8⟩; have hc8 := h8.ro.cell))
    go_end0
    exact ⟨rfl, by rw [E.out]; simpa only [ByteArray.append_assoc, ByteArray.append_empty, ByteArray.empty_append, str] using h8, hf1.trans (hf2.trans (hf3.trans (hf4.trans (hf5.trans (hf6.trans (hf7.trans (hf8)))))))⟩
  · have HJ' := HJ hxj
    rw [if_pos pj, if_neg (by simp [pk])] at E
    have HM := hm
    rw [E] at HM
    have E := Lib.hid E
    clear hm HJ hxj
    go_enter Tryz.func69, Tryz.ntmps69
    go_wp2_with (first
    | (go_at_call 71; (with_reducible refine (HI _ _ h ?hm).mono ?_); (case hm => ((try simp only [ByteArray.size_append] at HM ⊢); (try simp only [ByteArray.size, str, List.size_toArray, List.length_cons, List.length_nil] at HM ⊢); omega)); rintro e w1 ⟨rfl, h1, hf1⟩; have hc1 := h1.ro.cell)
    | (go_at_call 27; (with_reducible refine (add1_c h1 _ ?hm).mono ?_); (case hm => ((try simp only [ByteArray.size_append] at HM ⊢); (try simp only [ByteArray.size, str, List.size_toArray, List.length_cons, List.length_nil] at HM ⊢); omega)); rintro e w2 ⟨rfl, h2, hf2⟩; have hc2 := h2.ro.cell)
    | (go_at_call 27; (with_reducible refine (add1_c h2 _ ?hm).mono ?_); (case hm => ((try simp only [ByteArray.size_append] at HM ⊢); (try simp only [ByteArray.size, str, List.size_toArray, List.length_cons, List.length_nil] at HM ⊢); omega)); rintro e w3 ⟨rfl, h3, hf3⟩; have hc3 := h3.ro.cell)
    | (go_at_call 68; (with_reducible refine (HJ' _ _ h3 ?hm).mono ?_); (case hm => ((try simp only [ByteArray.size_append] at HM ⊢); (try simp only [ByteArray.size, str, List.size_toArray, List.length_cons, List.length_nil] at HM ⊢); omega)); rintro e w4 ⟨rfl, h4, hf4⟩; have hc4 := h4.ro.cell)
    | (go_at_call 27; (with_reducible refine (add1_c h4 _ ?hm).mono ?_); (case hm => ((try simp only [ByteArray.size_append] at HM ⊢); (try simp only [ByteArray.size, str, List.size_toArray, List.length_cons, List.length_nil] at HM ⊢); omega)); rintro e w5 ⟨rfl, h5, hf5⟩; have hc5 := h5.ro.cell)
    | (go_at_call 27; (with_reducible refine (add1_c h5 _ ?hm).mono ?_); (case hm => ((try simp only [ByteArray.size_append] at HM ⊢); (try simp only [ByteArray.size, str, List.size_toArray, List.length_cons, List.length_nil] at HM ⊢); omega)); rintro e w6 ⟨rfl, h6, hf6⟩; have hc6 := h6.ro.cell))
    go_end0
    exact ⟨rfl, by rw [E.out]; simpa only [ByteArray.append_assoc, ByteArray.append_empty, ByteArray.empty_append, str] using h6, hf1.trans (hf2.trans (hf3.trans (hf4.trans (hf5.trans (hf6)))))⟩
  · rw [if_neg (by simp [pj]), if_pos pk] at E
    have HM := hm
    rw [E] at HM
    have E := Lib.hid E
    clear hm HJ
    go_enter Tryz.func69, Tryz.ntmps69
    go_wp2_with (first
    | (go_at_call 71; (with_reducible refine (HI _ _ h ?hm).mono ?_); (case hm => ((try simp only [ByteArray.size_append] at HM ⊢); (try simp only [ByteArray.size, str, List.size_toArray, List.length_cons, List.length_nil] at HM ⊢); omega)); rintro e w1 ⟨rfl, h1, hf1⟩; have hc1 := h1.ro.cell)
    | (go_at_call 27; (with_reducible refine (add1_c h1 _ ?hm).mono ?_); (case hm => ((try simp only [ByteArray.size_append] at HM ⊢); (try simp only [ByteArray.size, str, List.size_toArray, List.length_cons, List.length_nil] at HM ⊢); omega)); rintro e w2 ⟨rfl, h2, hf2⟩; have hc2 := h2.ro.cell)
    | (go_at_call 27; (with_reducible refine (add1_c h2 _ ?hm).mono ?_); (case hm => ((try simp only [ByteArray.size_append] at HM ⊢); (try simp only [ByteArray.size, str, List.size_toArray, List.length_cons, List.length_nil] at HM ⊢); omega)); rintro e w3 ⟨rfl, h3, hf3⟩; have hc3 := h3.ro.cell)
    | (go_at_call 27; (with_reducible refine (add1_c h3 _ ?hm).mono ?_); (case hm => ((try simp only [ByteArray.size_append] at HM ⊢); (try simp only [ByteArray.size, str, List.size_toArray, List.length_cons, List.length_nil] at HM ⊢); omega)); rintro e w4 ⟨rfl, h4, hf4⟩; have hc4 := h4.ro.cell)
    | (go_at_call 71; (with_reducible refine (HK _ _ h4 ?hm).mono ?_); (case hm => ((try simp only [ByteArray.size_append] at HM ⊢); (try simp only [ByteArray.size, str, List.size_toArray, List.length_cons, List.length_nil] at HM ⊢); omega)); rintro e w5 ⟨rfl, h5, hf5⟩; have hc5 := h5.ro.cell)
    | (go_at_call 27; (with_reducible refine (add1_c h5 _ ?hm).mono ?_); (case hm => ((try simp only [ByteArray.size_append] at HM ⊢); (try simp only [ByteArray.size, str, List.size_toArray, List.length_cons, List.length_nil] at HM ⊢); omega)); rintro e w6 ⟨rfl, h6, hf6⟩; have hc6 := h6.ro.cell))
    go_end0
    exact ⟨rfl, by rw [E.out]; simpa only [ByteArray.append_assoc, ByteArray.append_empty, ByteArray.empty_append, str] using h6, hf1.trans (hf2.trans (hf3.trans (hf4.trans (hf5.trans (hf6)))))⟩
  · rw [if_neg (by simp [pj]), if_neg (by simp [pk])] at E
    have HM := hm
    rw [E] at HM
    have E := Lib.hid E
    clear hm HJ
    go_enter Tryz.func69, Tryz.ntmps69
    go_wp2_with (first
    | (go_at_call 71; (with_reducible refine (HI _ _ h ?hm).mono ?_); (case hm => ((try simp only [ByteArray.size_append] at HM ⊢); (try simp only [ByteArray.size, str, List.size_toArray, List.length_cons, List.length_nil] at HM ⊢); omega)); rintro e w1 ⟨rfl, h1, hf1⟩; have hc1 := h1.ro.cell)
    | (go_at_call 27; (with_reducible refine (add1_c h1 _ ?hm).mono ?_); (case hm => ((try simp only [ByteArray.size_append] at HM ⊢); (try simp only [ByteArray.size, str, List.size_toArray, List.length_cons, List.length_nil] at HM ⊢); omega)); rintro e w2 ⟨rfl, h2, hf2⟩; have hc2 := h2.ro.cell)
    | (go_at_call 27; (with_reducible refine (add1_c h2 _ ?hm).mono ?_); (case hm => ((try simp only [ByteArray.size_append] at HM ⊢); (try simp only [ByteArray.size, str, List.size_toArray, List.length_cons, List.length_nil] at HM ⊢); omega)); rintro e w3 ⟨rfl, h3, hf3⟩; have hc3 := h3.ro.cell)
    | (go_at_call 27; (with_reducible refine (add1_c h3 _ ?hm).mono ?_); (case hm => ((try simp only [ByteArray.size_append] at HM ⊢); (try simp only [ByteArray.size, str, List.size_toArray, List.length_cons, List.length_nil] at HM ⊢); omega)); rintro e w4 ⟨rfl, h4, hf4⟩; have hc4 := h4.ro.cell))
    go_end0
    exact ⟨rfl, by rw [E.out]; simpa only [ByteArray.append_assoc, ByteArray.append_empty, ByteArray.empty_append, str] using h4, hf1.trans (hf2.trans (hf3.trans (hf4)))⟩
theorem add4d_c {w0 w : World} {B g : Nat} {d : Option Int} {s : ByteArray} (h : St w0 B g d s w) (u1 u2 u3 u4 : ByteArray) (hm : s.size + (u1.size + u2.size + u3.size + u4.size) ≤ 140737488355328) :
    Calls Tryz.prog 27 #[.pointer (some ⟨g, 0, none⟩), .slice (some ⟨w.heap.size, 0, none⟩) 4 4] (w.alloc (.cells #[.string u1, .string u2, .string u3, .string u4] 9)).drew fun e w' => e = .returned (.tuple #[]) ∧ St w0 B g d (s ++ u1 ++ u2 ++ u3 ++ u4) w' ∧ Wf g w w' := by
  have hg : w.heap.size ≠ g := by
    obtain ⟨_, p, v, _, hg, _⟩ := h.wr
    have := (Array.getElem?_eq_some_iff.1 hg).1
    omega
  refine (add_c (h.alloc (.cells #[.string u1, .string u2, .string u3, .string u4] 9)).drew [u1, u2, u3, u4] (heap_alloc_new w _) hg (by simp) ?_).mono ?_
  · simp only [partsS, ByteArray.size_append, ByteArray.size_empty]
    omega
  · rintro e w' ⟨rfl, h1, h2⟩
    refine ⟨rfl, ?_, ((Wf.refl g w).alloc _).drew.trans h2⟩
    simpa only [partsS, ByteArray.append_empty, ByteArray.append_assoc] using h1
set_option maxHeartbeats 40000000 in
set_option maxRecDepth 100000 in
theorem whead_3 {w0 w : World} {B g : Nat} {d : Option Int} {s : ByteArray} {a : Addr} {n : Node} (he : Env w0 B) (hn : NodeAt w0 B a n) (h0 : n.n = 3) (h1 : n.kids.length = 3) (hx : ∀ k, n.kids[1]? = some k → exprB k = true) (h : St w0 B g d s w) (hm : s.size + (headS n).size ≤ 140737488355328) :
    Calls Tryz.prog 69 #[.pointer (some ⟨g, 0, none⟩), .pointer (some a)] w fun e w' => e = .returned (.tuple #[]) ∧ St w0 B g d (s ++ headS n) w' ∧ Wf g w w' := by
  obtain ⟨A, c, hb, c0, c1, c2, c3, c7, hk⟩ := hn.open_
  have hr := h.ro
  have hc := hr.cell
  have hl := hk.le
  have hl' := hk.le'
  have hz := hr.lt hb
  obtain ⟨ad, rfl⟩ := hk.some_ (by omega)
  have hl0 : 0 < n.kids.length := by omega
  have hl1 : 1 < n.kids.length := by omega
  have HJ := wexpr_c (g := g) (d := d) he (hk.at_ ad rfl 1 hl1) (hx _ (List.getElem?_eq_getElem hl1))
  have hi := hk.at_ ad rfl 0 hl0
  have E : headS n = (if n.text.toList.isEmpty then .empty else n.kids[0].text ++ str [32] ++ n.text ++ str [32]) ++ str [114, 97, 110, 103, 101, 32] ++ toldS n.kids[1] ++ str [32] := by
    simp [headS, h0, strAt, textAt, hl0, hl1]
  generalize n.kids[0] = k0 at hi E
  generalize n.kids[1] = k1 at HJ E
  rw [add8] at HJ
  simp only [Nat.zero_mul] at hi
  replace hi : NodeAt w0 B ad k0 := hi
  obtain ⟨A1, c1', ib, i0, i1, _⟩ := hi.open_
  have HH := Lib.hid h1
  have hD := h.drew
  have hcD := hD.ro.cell
  clear hx h1 hi
  rw [h0] at c2
  have tj : (n.text.toList.isEmpty = true ∧ n.text.toList = []) ∨ n.text.toList.isEmpty = false := by
    cases q : n.text.toList <;> simp
  rcases tj with ⟨pj, pj2⟩ | pj
  · rw [if_pos pj, ByteArray.empty_append] at E
    have HM := hm
    rw [E] at HM
    have E := Lib.hid E
    clear hm
    go_enter Tryz.func69, Tryz.ntmps69
    go_wp2_with (first
    | (go_at_call 27; (with_reducible refine (add1_c h _ ?hm).mono ?_); (case hm => ((try simp only [ByteArray.size_append] at HM ⊢); (try simp only [ByteArray.size, str, List.size_toArray, List.length_cons, List.length_nil] at HM ⊢); omega)); rintro e w1 ⟨rfl, h1, hf1⟩; have hc1 := h1.ro.cell)
    | (go_at_call 68; (with_reducible refine (HJ _ _ h1 ?hm).mono ?_); (case hm => ((try simp only [ByteArray.size_append] at HM ⊢); (try simp only [ByteArray.size, str, List.size_toArray, List.length_cons, List.length_nil] at HM ⊢); omega)); rintro e w2 ⟨rfl, h2, hf2⟩; have hc2 := h2.ro.cell)
    | (go_at_call 27; (with_reducible refine (add1_c h2 _ ?hm).mono ?_); (case hm => ((try simp only [ByteArray.size_append] at HM ⊢); (try simp only [ByteArray.size, str, List.size_toArray, List.length_cons, List.length_nil] at HM ⊢); omega)); rintro e w3 ⟨rfl, h3, hf3⟩; have hc3 := h3.ro.cell))
    go_end0
    exact ⟨rfl, by rw [E.out]; simpa only [ByteArray.append_assoc, ByteArray.append_empty, ByteArray.empty_append, str] using h3, hf1.trans (hf2.trans (hf3))⟩
  · rw [if_neg (by simp [pj])] at E
    have HM := hm
    rw [E] at HM
    have E := Lib.hid E
    clear hm
    go_enter Tryz.func69, Tryz.ntmps69
    go_wp2_with fail
    go_region_with ((go_at_call 27; (with_reducible refine (add4d_c h _ _ _ _ ?hm).mono ?_); (case hm => ((try simp only [ByteArray.size_append] at HM ⊢); (try simp only [ByteArray.size, str, List.size_toArray, List.length_cons, List.length_nil] at HM ⊢); omega)); rintro e w1 ⟨rfl, h1, hf1⟩; have hc1 := h1.ro.cell))
    all_goals go_wp2_with (first
    | (go_at_call 27; (with_reducible refine (add1_c h1 _ ?hm).mono ?_); (case hm => ((try simp only [ByteArray.size_append] at HM ⊢); (try simp only [ByteArray.size, str, List.size_toArray, List.length_cons, List.length_nil] at HM ⊢); omega)); rintro e w2 ⟨rfl, h2, hf2⟩; have hc2 := h2.ro.cell)
    | (go_at_call 68; (with_reducible refine (HJ _ _ h2 ?hm).mono ?_); (case hm => ((try simp only [ByteArray.size_append] at HM ⊢); (try simp only [ByteArray.size, str, List.size_toArray, List.length_cons, List.length_nil] at HM ⊢); omega)); rintro e w3 ⟨rfl, h3, hf3⟩; have hc3 := h3.ro.cell)
    | (go_at_call 27; (with_reducible refine (add1_c h3 _ ?hm).mono ?_); (case hm => ((try simp only [ByteArray.size_append] at HM ⊢); (try simp only [ByteArray.size, str, List.size_toArray, List.length_cons, List.length_nil] at HM ⊢); omega)); rintro e w4 ⟨rfl, h4, hf4⟩; have hc4 := h4.ro.cell))
    all_goals go_end0
    all_goals exact ⟨rfl, by rw [E.out]; simpa only [ByteArray.append_assoc, str] using h4, hf1.trans (hf2.trans (hf3.trans hf4))⟩
theorem kidB_spec {n : Node} {i : Nat} {p : Node → Bool} (h : kidB n i p = true) : ∀ k, n.kids[i]? = some k → p k = true := by
  intro k hk
  simpa [kidB, hk] using h
theorem nothing_kind {k : Node} (h : nothingB k = true) : k.kind = 0 := by
  simp only [nothingB, Bool.and_eq_true, beq_iff_eq] at h
  exact h.1.1
theorem whead_c {w0 : World} {B g : Nat} {d : Option Int} {a : Addr} {n : Node} (he : Env w0 B) (hn : NodeAt w0 B a n) (h0 : 0 ≤ n.n) (h3 : n.n ≤ 3) (hl : n.kids.length = loopN n.n) (hx : loopB n = true) : Adds 69 w0 B g d a (headS n) := by
  intro s w h hm
  rcases (by omega : n.n = 0 ∨ n.n = 1 ∨ n.n = 2 ∨ n.n = 3) with q | q | q | q
  · exact whead_0 he hn q h hm
  · simp only [loopB, loopN, q] at hx hl
    exact whead_1 he hn q hl (kidB_spec hx) h hm
  · simp only [loopB, loopN, q] at hx hl
    simp only [show ((2 : Int) == 1) = false from rfl, beq_self_eq_true, if_true, Bool.false_eq_true, if_false, Bool.and_eq_true] at hx
    refine whead_2 he hn q hl (fun k hk => ?_) (fun k hk => ?_) (fun k hk => ?_) h hm
    · have := kidB_spec hx.1.1 k hk
      simp only [Bool.or_eq_true] at this
      exact this.imp_right nothing_kind
    · have := kidB_spec hx.1.2 k hk
      simp only [Bool.or_eq_true] at this
      exact this.imp_right nothing_kind
    · have := kidB_spec hx.2 k hk
      simp only [Bool.or_eq_true, Bool.and_eq_true] at this
      exact this.imp (·.1) nothing_kind
  · simp only [loopB, loopN, q] at hx hl
    simp only [show ((3 : Int) == 1) = false from rfl, show ((3 : Int) == 2) = false from rfl, beq_self_eq_true, if_true, Bool.false_eq_true, if_false, Bool.and_eq_true] at hx
    exact whead_3 he hn q hl (kidB_spec hx.1) h hm
end Go.Proofs.YtjdeomenioagdaaGreatDoor
