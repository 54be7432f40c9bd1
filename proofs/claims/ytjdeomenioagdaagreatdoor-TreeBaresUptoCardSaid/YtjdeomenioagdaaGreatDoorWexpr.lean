/- Expressions are written, by the program. -/
import Derived.Test.YtjdeomenioagdaaGreatDoorTold
set_option linter.unusedVariables false
set_option linter.unusedSimpArgs false
namespace Go.Proofs.YtjdeomenioagdaaGreatDoor
open Go.RowKit
/-- A node's text is added by fn. -/
abbrev Adds (fn : FuncId) (w0 : World) (B g : Nat) (d : Option Int) (a : Addr) (out : ByteArray) : Prop :=
  ∀ s w, St w0 B g d s w → s.size + out.size ≤ 140737488355328 → Calls Tryz.prog fn #[.pointer (some ⟨g, 0, none⟩), .pointer (some a)] w fun e w' => e = .returned (.tuple #[]) ∧ St w0 B g d (s ++ out) w' ∧ Wf g w w'
set_option maxHeartbeats 40000000 in
set_option maxRecDepth 100000 in
theorem hold_c {w0 w : World} {B g : Nat} {d : Option Int} {s out : ByteArray} {a : Addr} (must : Bool) (ha : Adds 68 w0 B g d a out) (h : St w0 B g d s w) (hm : s.size + (heldS must out).size ≤ 140737488355328) :
    Calls Tryz.prog 116 #[.pointer (some ⟨g, 0, none⟩), .pointer (some a), .bool must] w fun e w' => e = .returned (.tuple #[]) ∧ St w0 B g d (s ++ heldS must out) w' ∧ Wf g w w' := by
  have HA := Lib.hid ha
  clear ha
  cases must
  · have HM : s.size + out.size ≤ 140737488355328 := hm
    go_enter Tryz.func116, Tryz.ntmps116
    go_wp2_with (go_at_call 68; (with_reducible refine (HA.out _ _ h ?hm).mono ?_); (case hm => exact HM); rintro e w1 ⟨rfl, h1, hf1⟩)
    go_end0
    exact ⟨rfl, h1, hf1⟩
  · have HM : s.size + (1 + out.size + 1) ≤ 140737488355328 := by
      unfold heldS at hm
      simp only [if_true, ByteArray.size_append, str_size, List.length_cons, List.length_nil] at hm
      omega
    have z40 : (str [40]).size = 1 := rfl
    have z41 : (str [41]).size = 1 := rfl
    go_enter_defers Tryz.func116, Tryz.ntmps116
    go_wp2_with (first
      | (go_at_call 27; (with_reducible refine (add1_c h _ ?hm).mono ?_); (case hm => (show _ + 1 ≤ _; omega)); rintro e w1 ⟨rfl, h1, hf1⟩)
      | (go_at_call 68; (with_reducible refine (HA.out _ _ (h1.alloc _) ?hm).mono ?_); (case hm => (rw [ByteArray.size_append, show ByteArray.size ⟨#[40]⟩ = 1 from rfl]; omega)); rintro e w2 ⟨rfl, h2, hf2⟩))
    refine leaves_cons (f := 27) (args := #[.pointer (some ⟨g, 0, none⟩), .slice (some ⟨w1.heap.size, 0, none⟩) 1 1]) (by simp) (by kernel_rfl) ?_
    have hg1 : w1.heap.size ≠ g := by
      obtain ⟨_, p, v, _, hg, _⟩ := h1.wr
      have := (Array.getElem?_eq_some_iff.1 hg).1
      omega
    refine (add_d h2 [⟨#[41]⟩] (hf2.keep _ _ (heap_alloc_new w1 _) hg1 (fun cs fr e => by injection e with _ e _; exact absurd e (by decide))) hg1 (by simp) ?_).mono ?_
    · simp only [partsS, ByteArray.size_append, ByteArray.size_empty, show ByteArray.size ⟨#[40]⟩ = 1 from rfl, show ByteArray.size ⟨#[41]⟩ = 1 from rfl]
      omega
    · rintro e u' w'' ⟨rfl, rfl, h3, hf3⟩
      refine ⟨_, results_none rfl _ _ _, rfl, ?_, (hf1.trans (((Wf.refl g w1).alloc _).trans hf2)).trans hf3⟩
      simpa only [heldS, if_true, partsS, ByteArray.append_empty, ByteArray.append_assoc, str] using h3
set_option maxHeartbeats 40000000 in
set_option maxRecDepth 100000 in
theorem list_c {w0 w : World} {B g : Nat} {d : Option Int} {s : ByteArray} {A : Option Addr} {l : List Node} {c : Nat} (hk : KidsAt w0 B A l c) (ha : ∀ ad, A = some ad → ∀ i (h : i < l.length), Adds 68 w0 B g d (ad.add (i * 8)) (toldS l[i])) (h : St w0 B g d s w) (hm : s.size + (listS l).size ≤ 140737488355328) :
    Calls Tryz.prog 117 #[.pointer (some ⟨g, 0, none⟩), .slice A l.length c] w fun e w' => e = .returned (.tuple #[]) ∧ St w0 B g d (s ++ listS l) w' ∧ Wf g w w' := by
  have hl := hk.le
  have hl' := hk.le'
  have HA := Lib.hid ha
  clear ha
  have hm' : s.size + (joinS (l.map toldS)).size ≤ 140737488355328 := hm
  go_enter Tryz.func117, Tryz.ntmps117
  go_wp2
  go_loopw [4, 7] (fun _ u wr => ∃ k : Nat, k ≤ l.length ∧ u = .int .i64 k ∧ St w0 B g d (s ++ joinS ((l.map toldS).take k)) wr ∧ Wf g w wr) (fun _ u _ => (l.length - (intOf u).toNat : Nat))
  case atStart => exact ⟨0, by omega, rfl, by simpa [joinS] using h, Wf.refl g w⟩
  case round =>
    obtain ⟨k, hkl, rfl, hst, hwf⟩ := hrel
    by_cases hlt : k < l.length
    · obtain ⟨ad, rfl⟩ := hk.some_ (by omega)
      have HC := Lib.hid (HA.out ad rfl k hlt)
      have hz := joinS_take_le (l.map toldS) (k + 1)
      have hstep := joinS_step (l.map toldS) k (by simpa using hlt)
      rw [List.getElem_map] at hstep
      generalize toldS l[k] = tk at HC hstep
      by_cases hk0 : k = 0
      · subst hk0
        rw [if_pos rfl] at hstep
        rw [hstep] at hz
        have hs0 : St w0 B g d s wr := by simpa [joinS] using hst
        have HC0 : Hid (Adds 68 w0 B g d ad tk) := by
          have := HC.out
          simp only [Nat.zero_mul] at this
          exact this
        have HN0 := Lib.hid hstep
        clear hst hk hstep HC
        go_wp2_with (go_at_call 68; (with_reducible refine (HC0.out _ _ hs0 ?hm).mono ?_); (case hm => omega); rintro e w1 ⟨rfl, h1, hf1⟩)
        exact ⟨⟨1, by omega, by go_num, by (have e := HN0.out; simp only [Nat.zero_add] at e; rw [e]; exact h1), hwf.trans hf1⟩, by simp [intOf]; omega⟩
      · rw [if_neg hk0] at hstep
        have HN := Lib.hid hstep
        rw [hstep] at hz
        simp only [ByteArray.size_append, str_size, List.length_cons, List.length_nil] at hz
        generalize joinS (List.take k (l.map toldS)) = J at hst HN hz
        clear hk hstep
        have hkp : decide ((0 : Int) < (k : Int)) = true := by simp; omega
        go_wp2_with (first
          | (go_at_call 27; (with_reducible refine (add1_c hst _ ?hm).mono ?_); (case hm => (show _ + 2 ≤ _; rw [ByteArray.size_append]; omega)); rintro e w1 ⟨rfl, h1, hf1⟩)
          | (go_at_call 68; (with_reducible refine (HC.out _ _ h1 ?hm).mono ?_); (case hm => (simp only [ByteArray.size_append, show ByteArray.size ⟨#[44, 32]⟩ = 2 from rfl]; omega)); rintro e w2 ⟨rfl, h2, hf2⟩))
        exact ⟨⟨k + 1, by omega, by go_num, by rw [HN.out]; simpa only [ByteArray.append_assoc, str] using h2, hwf.trans (hf1.trans hf2)⟩, by simp [intOf]; omega⟩
    · have hk : k = (l.map toldS).length := by simp; omega
      subst hk
      rw [List.take_length] at hst
      go_wp2
      go_end0
      exact ⟨rfl, hst, hwf⟩
end Go.Proofs.YtjdeomenioagdaaGreatDoor
