/- Simple statements are written, by the program. -/
import Derived.Test.YtjdeomenioagdaaGreatDoorWexpr8
import Derived.StillTailTactics
set_option linter.unusedVariables false
set_option linter.unusedSimpArgs false
namespace Go.Proofs.YtjdeomenioagdaaGreatDoor
open Go.RowKit
theorem target_adds {w0 : World} {B g : Nat} {d : Option Int} {a : Addr} {n : Node} (he : Env w0 B) (hn : NodeAt w0 B a n) (hx : n.kind = 21) : Adds 68 w0 B g d a (toldS n) :=
  fun s w h hm => wexpr_leaf he hn (.inl hx) h hm
theorem targets_adds {w0 : World} {B g : Nat} {d : Option Int} {A : Option Addr} {l : List Node} {c : Nat} (he : Env w0 B) (hk : KidsAt w0 B A l c) (hall : l.all targetB = true) :
    ∀ ad, A = some ad → ∀ i (h : i < l.length), Adds 68 w0 B g d (ad.add (i * 8)) (toldS l[i]) := fun ad hA i hi => by
  have h1 := List.all_eq_true.1 hall _ (List.getElem_mem hi)
  refine target_adds he (hk.at_ ad hA i hi) ?_
  simp only [targetB, Bool.and_eq_true, beq_iff_eq] at h1
  exact h1.1.1.1
set_option maxHeartbeats 40000000 in
set_option maxRecDepth 100000 in
theorem wsimple_none {w0 w : World} {B g : Nat} {d : Option Int} {s : ByteArray} {a : Addr} {n : Node} (he : Env w0 B) (hn : NodeAt w0 B a n) (h0 : n.kind = 0) (h : St w0 B g d s w) (hm : s.size + (shortS n).size ≤ 140737488355328) :
    Calls Tryz.prog 71 #[.pointer (some ⟨g, 0, none⟩), .pointer (some a)] w fun e w' => e = .returned (.tuple #[]) ∧ St w0 B g d (s ++ shortS n) w' ∧ Wf g w w' := by
  obtain ⟨A, c, hb, c0, c1, c2, c3, c7, hk⟩ := hn.open_
  have hr := h.ro
  have hc := hr.cell
  have hl := hk.le
  have hl' := hk.le'
  have hz := hr.lt hb
  have E : Hid (shortS n = .empty) := by show _ = _; simp [shortS, h0]
  go_enter Tryz.func71, Tryz.ntmps71
  go_wp2_with fail
  go_end0
  exact ⟨rfl, by rw [E.out]; simpa using h, Wf.refl g w⟩
set_option maxHeartbeats 40000000 in
set_option maxRecDepth 100000 in
theorem wsimple_do {w0 w : World} {B g : Nat} {d : Option Int} {s : ByteArray} {a : Addr} {n : Node} (he : Env w0 B) (hn : NodeAt w0 B a n) (h0 : n.kind = 10) (h1 : n.kids.length = 1) (hall : n.kids.all exprB = true) (h : St w0 B g d s w) (hm : s.size + (shortS n).size ≤ 140737488355328) :
    Calls Tryz.prog 71 #[.pointer (some ⟨g, 0, none⟩), .pointer (some a)] w fun e w' => e = .returned (.tuple #[]) ∧ St w0 B g d (s ++ shortS n) w' ∧ Wf g w w' := by
  obtain ⟨A, c, hb, c0, c1, c2, c3, c7, hk⟩ := hn.open_
  have hr := h.ro
  have hc := hr.cell
  have hl := hk.le
  have hl' := hk.le'
  have hz := hr.lt hb
  obtain ⟨ad, rfl⟩ := hk.some_ (by omega)
  have hl1 : 0 < n.kids.length := by omega
  have HK := wexpr_c (g := g) (d := d) he (hk.at_ ad rfl 0 hl1) (List.all_eq_true.1 hall _ (List.getElem_mem hl1))
  have E : Hid (shortS n = toldS n.kids[0]) := by show _ = _; simp [shortS, h0, strAt, hl1]
  rw [E.out] at hm
  generalize n.kids[0] = k at HK E hm
  simp only [Nat.zero_mul] at HK
  replace HK : Adds 68 w0 B g d ad (toldS k) := HK
  clear hall
  go_enter Tryz.func71, Tryz.ntmps71
  go_wp2_with (go_at_call 68; (with_reducible refine (HK _ _ h ?hm).mono ?_); (case hm => exact hm); rintro e w1 ⟨rfl, h1, hf1⟩)
  go_end0
  exact ⟨rfl, by rw [E.out]; exact h1, hf1⟩
set_option maxHeartbeats 40000000 in
set_option maxRecDepth 100000 in
theorem wsimple_step {w0 w : World} {B g : Nat} {d : Option Int} {s : ByteArray} {a : Addr} {n : Node} (he : Env w0 B) (hn : NodeAt w0 B a n) (h0 : n.kind = 8) (h1 : n.kids.length = 1) (hN : n.n = 1 ∨ n.n = -1) (h : St w0 B g d s w) (hm : s.size + (shortS n).size ≤ 140737488355328) :
    Calls Tryz.prog 71 #[.pointer (some ⟨g, 0, none⟩), .pointer (some a)] w fun e w' => e = .returned (.tuple #[]) ∧ St w0 B g d (s ++ shortS n) w' ∧ Wf g w w' := by
  obtain ⟨A, c, hb, c0, c1, c2, c3, c7, hk⟩ := hn.open_
  have hr := h.ro
  have hc := hr.cell
  have hl := hk.le
  have hl' := hk.le'
  have hz := hr.lt hb
  obtain ⟨ad, rfl⟩ := hk.some_ (by omega)
  have hl1 : 0 < n.kids.length := by omega
  have hkn := hk.at_ ad rfl 0 hl1
  have E : shortS n = if n.n == 1 then n.kids[0].text ++ str [43, 43] else n.kids[0].text ++ str [45, 45] := by simp [shortS, h0, textAt, hl1]
  generalize n.kids[0] = k at hkn E
  simp only [Nat.zero_mul] at hkn
  replace hkn : NodeAt w0 B ad k := hkn
  obtain ⟨A', c', kb, k0, k1, k2, k3, k7, _⟩ := hkn.open_
  rcases hN with hN | hN
  all_goals rw [hN] at c2 E
  all_goals simp only [beq_self_eq_true, if_true, show ((-1 : Int) == 1) = false from rfl, Bool.false_eq_true, if_false] at E
  all_goals rw [E] at hm
  all_goals simp only [ByteArray.size_append, str_size, List.length_cons, List.length_nil] at hm
  all_goals (have E := Lib.hid E)
  all_goals go_enter Tryz.func71, Tryz.ntmps71
  all_goals go_wp2_with (go_at_call 27; (with_reducible refine (add2_c h _ _ ?hm).mono ?_); (case hm => (show _ + (_ + 2) ≤ _; omega)); rintro e w1 ⟨rfl, h1, hf1⟩)
  all_goals go_end0
  all_goals exact ⟨rfl, by rw [E.out]; simpa only [ByteArray.append_assoc, str] using h1, hf1⟩
set_option maxHeartbeats 40000000 in
set_option maxRecDepth 100000 in
theorem wsimple_send {w0 w : World} {B g : Nat} {d : Option Int} {s : ByteArray} {a : Addr} {n : Node} (he : Env w0 B) (hn : NodeAt w0 B a n) (h0 : n.kind = 9) (h1 : n.kids.length = 2) (hall : n.kids.all exprB = true) (h : St w0 B g d s w) (hm : s.size + (shortS n).size ≤ 140737488355328) :
    Calls Tryz.prog 71 #[.pointer (some ⟨g, 0, none⟩), .pointer (some a)] w fun e w' => e = .returned (.tuple #[]) ∧ St w0 B g d (s ++ shortS n) w' ∧ Wf g w w' := by
  obtain ⟨A, c, hb, c0, c1, c2, c3, c7, hk⟩ := hn.open_
  have hr := h.ro
  have hc := hr.cell
  have hl := hk.le
  have hl' := hk.le'
  have hz := hr.lt hb
  obtain ⟨ad, rfl⟩ := hk.some_ (by omega)
  have hl1 : 0 < n.kids.length := by omega
  have hl2 : 1 < n.kids.length := by omega
  have HK := wexpr_c (g := g) (d := d) he (hk.at_ ad rfl 0 hl1) (List.all_eq_true.1 hall _ (List.getElem_mem hl1))
  have HJ := wexpr_c (g := g) (d := d) he (hk.at_ ad rfl 1 hl2) (List.all_eq_true.1 hall _ (List.getElem_mem hl2))
  have E : shortS n = toldS n.kids[0] ++ str [32, 60, 45, 32] ++ toldS n.kids[1] := by simp [shortS, h0, strAt, hl1, hl2]
  generalize n.kids[0] = k at HK E
  generalize n.kids[1] = j at HJ E
  simp only [Nat.zero_mul] at HK
  rw [add_fld ad (by omega : 1 * 8 ≠ 0)] at HJ
  replace HK : Adds 68 w0 B g d ad (toldS k) := HK
  rw [E] at hm
  simp only [ByteArray.size_append, str_size, List.length_cons, List.length_nil] at hm
  have E := Lib.hid E
  have H1 := Lib.hid h1
  clear hall
  go_enter Tryz.func71, Tryz.ntmps71
  go_wp2_with (first
    | (go_at_call 68; (first
        | (with_reducible refine (HK _ _ h ?hm).mono ?_); (case hm => omega); rintro e w1 ⟨rfl, h1, hf1⟩; have hc1 := h1.ro.cell
        | (with_reducible refine (HJ _ _ h2 ?hm).mono ?_); (case hm => (simp only [ByteArray.size_append, show ByteArray.size ⟨#[32, 60, 45, 32]⟩ = 4 from rfl]; omega)); rintro e w3 ⟨rfl, h3, hf3⟩))
    | (go_at_call 27; (with_reducible refine (add1_c h1 _ ?hm).mono ?_); (case hm => (show _ + 4 ≤ _; simp only [ByteArray.size_append]; omega)); rintro e w2 ⟨rfl, h2, hf2⟩; have hc2 := h2.ro.cell))
  go_end0
  exact ⟨rfl, by rw [E.out]; simpa only [ByteArray.append_assoc, str] using h3, hf1.trans (hf2.trans hf3)⟩
set_option maxHeartbeats 40000000 in
set_option maxRecDepth 100000 in
theorem wsimple_lets {w0 w : World} {B g : Nat} {d : Option Int} {s : ByteArray} {a : Addr} {n : Node} (he : Env w0 B) (hn : NodeAt w0 B a n) (h0 : n.kind = 6 ∨ n.kind = 7) {v : Nat} (hv : n.n = (v : Int)) (hv1 : 1 ≤ v) (hv2 : v ≤ 2) (hlen : n.kids.length = v + 1) (htg : (n.kids.take v).all targetB = true) (hx : ∀ k, n.kids[v]? = some k → exprB k = true) (h : St w0 B g d s w) (hm : s.size + (shortS n).size ≤ 140737488355328) :
    Calls Tryz.prog 71 #[.pointer (some ⟨g, 0, none⟩), .pointer (some a)] w fun e w' => e = .returned (.tuple #[]) ∧ St w0 B g d (s ++ shortS n) w' ∧ Wf g w w' := by
  obtain ⟨A, c, hb, c0, c1, c2, c3, c7, hk⟩ := hn.open_
  have hr := h.ro
  have hc := hr.cell
  have hl := hk.le
  have hl' := hk.le'
  have hz := hr.lt hb
  obtain ⟨ad, rfl⟩ := hk.some_ (by omega)
  have hl2 : v < n.kids.length := by omega
  have hln : (n.kids.take v).length = v := by rw [List.length_take]; omega
  have HL : Hid (∀ s w, St w0 B g d s w → s.size + (listS (n.kids.take v)).size ≤ 140737488355328 → Calls Tryz.prog 117 #[.pointer (some ⟨g, 0, none⟩), .slice (some ad) v c] w fun e w' => e = .returned (.tuple #[]) ∧ St w0 B g d (s ++ listS (n.kids.take v)) w' ∧ Wf g w w') := by
    intro s w h hm
    have := list_c (hk.take v) (targets_adds he (hk.take v) htg) h hm
    rw [hln] at this
    exact this
  have HJ := Lib.hid (wexpr_c (g := g) (d := d) he (hk.at_ ad rfl v hl2) (hx _ (List.getElem?_eq_getElem hl2)))
  have E6 : n.kind = 6 → shortS n = listS (n.kids.take v) ++ str [32, 58, 61, 32] ++ toldS n.kids[v] := by intro q; simp [shortS, q, strAt, hl2, hv]
  have E7 : n.kind = 7 → shortS n = listS (n.kids.take v) ++ str [32, 61, 32] ++ toldS n.kids[v] := by intro q; simp [shortS, q, strAt, hl2, hv]
  generalize n.kids[v] = j at HJ E6 E7
  rw [hv] at c2
  have HLN := Lib.hid hlen
  have hvc : v < c := by omega
  have hvc2 : v ≤ c := by omega
  clear hx htg hln hv hlen
  have hD := h.drew
  have hcD := hD.ro.cell
  rcases h0 with h0 | h0
  · have E := Lib.hid (E6 h0)
    clear E6 E7
    have HM := hm
    rw [E.out] at HM
    clear hm
    go_enter Tryz.func71, Tryz.ntmps71
    go_wp2_with fail
    go_still_tail 10, (by kernel_rfl)
    go_wp2_with (first
    | (go_at_call 117; (with_reducible refine (HL.out _ _ hD ?hm).mono ?_); (case hm => ((try simp only [ByteArray.size_append] at HM ⊢); (try simp only [ByteArray.size, str, List.size_toArray, List.length_cons, List.length_nil] at HM ⊢); omega)); rintro e w1 ⟨rfl, h1, hf1⟩; have hc1 := h1.ro.cell)
    | (go_at_call 27; (with_reducible refine (add1_c h1 _ ?hm).mono ?_); (case hm => ((try simp only [ByteArray.size_append] at HM ⊢); (try simp only [ByteArray.size, str, List.size_toArray, List.length_cons, List.length_nil] at HM ⊢); omega)); rintro e w2 ⟨rfl, h2, hf2⟩; have hc2 := h2.ro.cell))
    go_still_tail 10, (by kernel_rfl)
    have hD2 := h2.drew
    go_wp2_with (first
    | (go_at_call 68; (with_reducible refine (HJ.out _ _ hD2 ?hm).mono ?_); (case hm => ((try simp only [ByteArray.size_append] at HM ⊢); (try simp only [ByteArray.size, str, List.size_toArray, List.length_cons, List.length_nil] at HM ⊢); omega)); rintro e w3 ⟨rfl, h3, hf3⟩; have hc3 := h3.ro.cell))
    go_end0
    exact ⟨rfl, by rw [E.out]; simpa only [ByteArray.append_assoc, str] using h3, ((Wf.refl g w).drew.trans (hf1.trans hf2)).drew.trans hf3⟩
  · have E := Lib.hid (E7 h0)
    clear E6 E7
    have HM := hm
    rw [E.out] at HM
    clear hm
    go_enter Tryz.func71, Tryz.ntmps71
    go_wp2_with fail
    go_still_tail 10, (by kernel_rfl)
    go_wp2_with (first
    | (go_at_call 117; (with_reducible refine (HL.out _ _ hD ?hm).mono ?_); (case hm => ((try simp only [ByteArray.size_append] at HM ⊢); (try simp only [ByteArray.size, str, List.size_toArray, List.length_cons, List.length_nil] at HM ⊢); omega)); rintro e w1 ⟨rfl, h1, hf1⟩; have hc1 := h1.ro.cell)
    | (go_at_call 27; (with_reducible refine (add1_c h1 _ ?hm).mono ?_); (case hm => ((try simp only [ByteArray.size_append] at HM ⊢); (try simp only [ByteArray.size, str, List.size_toArray, List.length_cons, List.length_nil] at HM ⊢); omega)); rintro e w2 ⟨rfl, h2, hf2⟩; have hc2 := h2.ro.cell))
    go_still_tail 10, (by kernel_rfl)
    have hD2 := h2.drew
    go_wp2_with (first
    | (go_at_call 68; (with_reducible refine (HJ.out _ _ hD2 ?hm).mono ?_); (case hm => ((try simp only [ByteArray.size_append] at HM ⊢); (try simp only [ByteArray.size, str, List.size_toArray, List.length_cons, List.length_nil] at HM ⊢); omega)); rintro e w3 ⟨rfl, h3, hf3⟩; have hc3 := h3.ro.cell))
    go_end0
    exact ⟨rfl, by rw [E.out]; simpa only [ByteArray.append_assoc, str] using h3, ((Wf.refl g w).drew.trans (hf1.trans hf2)).drew.trans hf3⟩
end Go.Proofs.YtjdeomenioagdaaGreatDoor
