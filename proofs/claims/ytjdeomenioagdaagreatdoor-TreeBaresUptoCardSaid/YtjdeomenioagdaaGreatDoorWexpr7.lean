/- Expressions are written, by the program: methods; all of them. -/
import Derived.Test.YtjdeomenioagdaaGreatDoorWexpr6
import Derived.Test.YtjdeomenioagdaaGreatDoorSwitch2
set_option linter.unusedVariables false
set_option linter.unusedSimpArgs false
namespace Go.Proofs.YtjdeomenioagdaaGreatDoor
open Go.RowKit
set_option maxHeartbeats 40000000 in
set_option maxRecDepth 100000 in
theorem wexpr_method {w0 w : World} {B g : Nat} {d : Option Int} {s : ByteArray} {a : Addr} {n : Node} {m : Nat} (ih : WExprIH w0 B g d m) (hn : NodeAt w0 B a n) (hm1 : n.size ≤ m + 1) (h0 : n.kind = 30) (h1 : 1 ≤ n.kids.length) (hall : n.kids.all exprB = true)
    (h : St w0 B g d s w) (hm : s.size + (toldS n).size ≤ 140737488355328) :
    Calls Tryz.prog 68 #[.pointer (some ⟨g, 0, none⟩), .pointer (some a)] w fun e w' => e = .returned (.tuple #[]) ∧ St w0 B g d (s ++ toldS n) w' ∧ Wf g w w' := by
  obtain ⟨A, c, hb, c0, c1, c2, c3, c7, hk⟩ := hn.open_
  have hr := h.ro
  have hc := hr.cell
  have hl := hk.le
  have hl' := hk.le'
  have hz := hr.lt hb
  obtain ⟨ad, rfl⟩ := hk.some_ (by omega)
  have hl1 : 0 < n.kids.length := by omega
  have hall' := all_item_of_expr hall
  have HK := kids_said ih hk hm1 hall' ad rfl 0 hl1
  have hkn := hk.at_ ad rfl 0 hl1
  have HT : ∀ i (h : i < (n.kids.drop 1).length), Adds 68 w0 B g d ((fld ad 8).add (i * 8)) (toldS (n.kids.drop 1)[i]) := by
    intro i hi
    have hi' : 1 + i < n.kids.length := by simp at hi; omega
    have := kids_said ih hk hm1 hall' ad rfl (1 + i) hi'
    rw [List.getElem_drop]
    have e : (fld ad 8).add (i * 8) = ad.add ((1 + i) * 8) := by
      rw [add_fld ad (by omega)]
      by_cases h0 : i = 0
      · subst h0; rw [Nat.zero_mul, add_zero_]
      · rw [add_fld _ (by omega)]
        show (⟨_, _, _⟩ : Addr) = ⟨_, _, _⟩
        simp only [Addr.mk.injEq, and_true, true_and]
        omega
    rw [e]
    exact this
  have E : toldS n = heldS (n.kids[0].kind == 27 || n.kids[0].kind == 26) (toldS n.kids[0]) ++ str [46] ++ n.text ++ str [40] ++ listS (n.kids.drop 1) ++ str [41] := by
    rw [toldS_eq]
    simp [h0, kindAt, strAt, hl1]
  have hlen : (n.kids.drop 1).length = n.kids.length - 1 := List.length_drop
  have hlc := hk.le
  have hK1 : 1 < c → KidsAt w0 B (some (fld ad 8)) (n.kids.drop 1) (c - 1) := fun h => hk.drop1 h
  generalize n.kids[0] = k at HK hkn E
  simp only [Nat.zero_mul] at HK hkn
  replace HK : Adds 68 w0 B g d ad (toldS k) := HK
  replace hkn : NodeAt w0 B ad k := hkn
  obtain ⟨A', c', kb, k0, k1, k2, k3, k7, _⟩ := hkn.open_
  have tk : ((k.kind == 27) = true) ∨ ((k.kind == 27) = false ∧ (k.kind == 26) = true) ∨ ((k.kind == 27) = false ∧ (k.kind == 26) = false) := by
    cases (k.kind == 27) <;> cases (k.kind == 26) <;> simp
  clear ih hall hall'
  have HL : 1 < c → ∀ s w, St w0 B g d s w → s.size + (listS (n.kids.drop 1)).size ≤ 140737488355328 → Calls Tryz.prog 117 #[.pointer (some ⟨g, 0, none⟩), .slice (some (fld ad 8)) (n.kids.length - 1) (c - 1)] w fun e w' => e = .returned (.tuple #[]) ∧ St w0 B g d (s ++ listS (n.kids.drop 1)) w' ∧ Wf g w w' := by
    intro h1c s w h hm
    rw [← hlen]
    exact list_c (hK1 h1c) (fun ad' hA i hi => by injection hA with hA; subst hA; exact HT i hi) h hm
  by_cases h1c : 1 < c
  · have HLL := Lib.hid (HL h1c)
    clear HL hK1 HT
    rcases tk with p1 | ⟨p1, p2⟩ | ⟨p1, p2⟩
    all_goals (try simp only [p1, Bool.true_or, Bool.false_or] at E)
    all_goals (try simp only [p2] at E)
    all_goals rw [E] at hm
    all_goals simp only [ByteArray.size_append, str_size, List.length_cons, List.length_nil] at hm
    all_goals (have E := Lib.hid E)
    all_goals go_enter Tryz.func68, Tryz.ntmps68
    all_goals go_wp2_with (first
      | (go_at_call 116; (with_reducible refine (hold_c _ HK h ?hm).mono ?_); (case hm => omega); rintro e w1 ⟨rfl, h1, hf1⟩; have hc1 := h1.ro.cell)
      | (go_at_call 27; (first
          | (with_reducible refine (add3_c h1 _ _ _ ?hm).mono ?_); (case hm => (show _ + (1 + _ + 1) ≤ _; simp only [ByteArray.size_append]; omega)); rintro e w2 ⟨rfl, h2, hf2⟩; have hc2 := h2.ro.cell
          | (with_reducible refine (add1_c h3 _ ?hm).mono ?_); (case hm => (simp only [ByteArray.size_append, show ByteArray.size ⟨#[46]⟩ = 1 from rfl, show ByteArray.size ⟨#[40]⟩ = 1 from rfl, show ByteArray.size ⟨#[41]⟩ = 1 from rfl]; omega)); rintro e w4 ⟨rfl, h4, hf4⟩))
      | (go_at_call 117; (with_reducible refine (HLL.out _ _ h2 ?hm).mono ?_); (case hm => (simp only [ByteArray.size_append, show ByteArray.size ⟨#[46]⟩ = 1 from rfl, show ByteArray.size ⟨#[40]⟩ = 1 from rfl, show ByteArray.size ⟨#[41]⟩ = 1 from rfl]; omega)); rintro e w3 ⟨rfl, h3, hf3⟩))
    all_goals go_end0
    all_goals exact ⟨rfl, by rw [E.out]; simpa only [ByteArray.append_assoc, str] using h4, (hf1.trans hf2).trans (hf3.trans hf4)⟩
  · have hc1' : c = 1 := by omega
    have hnil : n.kids.drop 1 = [] := List.eq_nil_of_length_eq_zero (by omega)
    have hlen1 : n.kids.length = 1 := by omega
    have HLL : Hid (∀ s w, St w0 B g d s w → s.size + (listS (n.kids.drop 1)).size ≤ 140737488355328 → Calls Tryz.prog 117 #[.pointer (some ⟨g, 0, none⟩), .slice (some ad) 0 0] w fun e w' => e = .returned (.tuple #[]) ∧ St w0 B g d (s ++ listS (n.kids.drop 1)) w' ∧ Wf g w w') := by
      intro s w h hm
      rw [hnil]
      rw [hnil] at hm
      exact list_c (l := []) (A := some ad) (c := 0) (KidsAt.nil_ _ (by omega)) (fun _ _ i hi => absurd hi (by simp)) h hm
    have hlenH := Lib.hid hlen1
    subst hc1'
    clear HL hK1 HT hnil
    rcases tk with p1 | ⟨p1, p2⟩ | ⟨p1, p2⟩
    all_goals (try simp only [p1, Bool.true_or, Bool.false_or] at E)
    all_goals (try simp only [p2] at E)
    all_goals rw [E] at hm
    all_goals simp only [ByteArray.size_append, str_size, List.length_cons, List.length_nil] at hm
    all_goals (have E := Lib.hid E)
    all_goals go_enter Tryz.func68, Tryz.ntmps68
    all_goals go_wp2_with (first
      | (go_at_call 116; (with_reducible refine (hold_c _ HK h ?hm).mono ?_); (case hm => omega); rintro e w1 ⟨rfl, h1, hf1⟩; have hc1 := h1.ro.cell)
      | (go_at_call 27; (first
          | (with_reducible refine (add3_c h1 _ _ _ ?hm).mono ?_); (case hm => (show _ + (1 + _ + 1) ≤ _; simp only [ByteArray.size_append]; omega)); rintro e w2 ⟨rfl, h2, hf2⟩; have hc2 := h2.ro.cell
          | (with_reducible refine (add1_c h3 _ ?hm).mono ?_); (case hm => (simp only [ByteArray.size_append, show ByteArray.size ⟨#[46]⟩ = 1 from rfl, show ByteArray.size ⟨#[40]⟩ = 1 from rfl, show ByteArray.size ⟨#[41]⟩ = 1 from rfl]; omega)); rintro e w4 ⟨rfl, h4, hf4⟩))
      | (go_at_call 117; (with_reducible refine (HLL.out _ _ h2 ?hm).mono ?_); (case hm => (simp only [ByteArray.size_append, show ByteArray.size ⟨#[46]⟩ = 1 from rfl, show ByteArray.size ⟨#[40]⟩ = 1 from rfl, show ByteArray.size ⟨#[41]⟩ = 1 from rfl]; omega)); rintro e w3 ⟨rfl, h3, hf3⟩))
    all_goals go_end0
    all_goals exact ⟨rfl, by rw [E.out]; simpa only [ByteArray.append_assoc, str] using h4, (hf1.trans hf2).trans (hf3.trans hf4)⟩
end Go.Proofs.YtjdeomenioagdaaGreatDoor
