/- Expressions: which are right, by the program. -/
import Derived.Test.YtjdeomenioagdaaGreatDoorRead
import Derived.Test.YtjdeomenioagdaaGreatDoorTypes
set_option linter.unusedVariables false
set_option linter.unusedSimpArgs false
namespace Go.Proofs.YtjdeomenioagdaaGreatDoor
open Go.RowKit
set_option maxHeartbeats 4000000 in
theorem proper_c {w0 w : World} {B : Nat} (t : ByteArray) (hr : Ro w0 B w) (ht : t.size ≤ 1048576) :
    Calls Tryz.prog 36 #[.string t] w fun e w' => e = .returned (.bool (properB t)) ∧ Ro w0 B w' := by
  go_enter Tryz.func36, Tryz.ntmps36
  go_wp2_with (go_at_call 48; refine (name_c _ hr ht).mono ?_; rintro e w' ⟨rfl, hr'⟩)
  all_goals go_ret
  all_goals exact ⟨ret_bool (by first | (simp_all [properB, isT]; done) | grind [properB, isT]), (by assumption)⟩
set_option maxHeartbeats 4000000 in
theorem target_c {w0 w : World} {B : Nat} {a : Addr} {n : Node} (hn : NodeAt w0 B a n) (hr : Ro w0 B w) :
    Calls Tryz.prog 111 #[.pointer (some a)] w fun e w' => e = .returned (.bool (targetB n)) ∧ Ro w0 B w' := by
  obtain ⟨A, c, hb, c0, c1, c2, c3, c7, hk⟩ := hn.open_
  have hc := hr.cell
  have hl := hk.le
  have hl' := hk.le'
  have ht := hn.text_le
  clear hk
  go_enter Tryz.func111, Tryz.ntmps111
  go_wp2_with (first
    | (go_at_call 48; refine (name_c _ hr ht).mono ?_; rintro e w' ⟨rfl, hr'⟩; clear hc; have hc := hr'.cell)
    | (go_at_call 24; refine (has_c1 hn hr').mono ?_; rintro e w' ⟨rfl, rfl⟩))
  all_goals go_ret
  all_goals exact ⟨ret_bool (by first | (simp_all [targetB, bareB, marksB]; done) | grind [targetB, bareB, marksB]), (by assumption)⟩
set_option maxHeartbeats 4000000 in
theorem binds_c (t : ByteArray) (w : World) :
    Calls Tryz.prog 102 #[.string t] w fun e w' => e = .returned (.int .i64 (bindsI t)) ∧ w = w' := by
  go_enter Tryz.func102, Tryz.ntmps102
  go_wp2_with fail
  all_goals go_ret
  all_goals exact ⟨ret_int (by simp_all [bindsI, isT]), rfl⟩
theorem contains_c (l : List (List UInt8)) (b : Nat) (x : ByteArray) (w : World) (hn : l.length ≤ 1000) (hc : ∀ j, j < l.length → w.cell? ⟨b, j, none⟩ = some (.string (str (l.getD j [])))) :
    Calls Tryz.prog 101 #[.slice (some ⟨b, 0, none⟩) l.length l.length, .string x] w fun e w' => e = .returned (.bool (l.contains x.toList)) ∧ w = w' := by
  refine (Tryz.slices_Contains_string b 0 l.length l.length (l.map str) x w (by simp) (by omega) ?_).mono ?_
  · intro j hj
    rw [List.length_map] at hj
    rw [Nat.zero_add, hc j hj]
    simp [hj]
  · rintro e w' ⟨rfl, rfl⟩
    refine ⟨ret_bool ?_, rfl⟩
    rw [Bool.eq_iff_iff, Lib.containsS_iff, List.contains_iff_mem, List.take_of_length_le (by simp), List.mem_map]
    constructor
    · rintro ⟨a, ha, rfl⟩
      rw [str_list]; exact ha
    · intro h
      exact ⟨x.toList, h, list_str x⟩
/-- A function of nodes is called at each of them. -/
def Tells (fv : FuncId) (p : Node → Bool) (w0 : World) (B : Nat) (A : Option Addr) (l : List Node) : Prop :=
  ∀ ad, A = some ad → ∀ i (h : i < l.length), ∀ w, Ro w0 B w → Calls Tryz.prog fv #[.pointer (some (ad.add (i * 8)))] w fun e w' => e = .returned (.bool (p l[i])) ∧ Ro w0 B w'
set_option maxHeartbeats 4000000 in
theorem all_c (fv : FuncId) (p : Node → Bool) (hfv : ∀ args w, (callFunc fv args).run Tryz.prog w = .ok (.enter fv args) w) {w0 w : World} {B : Nat} {A : Option Addr} {l : List Node} {c : Nat} (hk : KidsAt w0 B A l c) (ht : Tells fv p w0 B A l) (hr : Ro w0 B w) :
    Calls Tryz.prog 25 #[.slice A l.length c, .func (.func fv) #[] #[]] w fun e w' => e = .returned (.bool (l.all p)) ∧ Ro w0 B w' := by
  have hl := hk.le
  have hl' := hk.le'
  have HT := Lib.hid ht
  clear ht
  go_enter Tryz.func25, Tryz.ntmps25
  go_wp2
  go_loopw [5, 8] (fun _ u wr => ∃ k : Nat, k ≤ l.length ∧ u = .int .i64 k ∧ Hid ((l.take k).all p = true) ∧ Ro w0 B wr) (fun _ u _ => (l.length - (intOf u).toNat : Nat))
  case atStart => exact ⟨0, by omega, rfl, rfl, hr⟩
  case round =>
    obtain ⟨k, hkl, rfl, H, hr⟩ := hrel
    by_cases hlt : k < l.length
    · obtain ⟨ad, rfl⟩ := hk.some_ (by omega)
      have HC := Lib.hid (HT.out ad rfl k hlt wr hr)
      have tok : p l[k] = true ∨ p l[k] = false := by cases p l[k] <;> simp
      rcases tok with hp | hp
      · have HN : Hid ((l.take (k + 1)).all p = true) := by
          show _ = _
          rw [List.take_succ_eq_append_getElem hlt, List.all_append, H.out, List.all_cons, hp]
          rfl
        clear H
        go_wp2_with ((with_reducible refine HC.out.mono ?_); rintro e w' ⟨rfl, hr'⟩)
        exact ⟨⟨k + 1, by omega, by go_num, HN, hr'⟩, by simp [intOf]; omega⟩
      · have HN : Hid (l.all p = false) := by
          show _ = _
          rw [List.all_eq_false]
          exact ⟨l[k], List.getElem_mem hlt, by simp [hp]⟩
        clear H
        go_wp2_with ((with_reducible refine HC.out.mono ?_); rintro e w' ⟨rfl, hr'⟩)
        go_ret
        exact ⟨ret_bool HN.out.symm, hr'⟩
    · have HN : Hid (l.all p = true) := by
        have h := H.out
        rw [List.take_of_length_le (by omega)] at h
        exact h
      go_wp2
      go_ret
      exact ⟨ret_bool HN.out.symm, hr⟩
end Go.Proofs.YtjdeomenioagdaaGreatDoor
