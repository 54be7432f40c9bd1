/- Types as texts. -/
import Derived.Test.YtjdeomenioagdaaGreatDoorLib
set_option linter.unusedVariables false
set_option linter.unusedSimpArgs false
namespace Go.Proofs.YtjdeomenioagdaaGreatDoor
open Go.RowKit
theorem cutp_c (s p : ByteArray) (w : World) (hp : p.toList.isPrefixOf s.toList = true) :
    Calls Tryz.prog 99 #[.string s, .string p] w fun e w' => e = .returned (.tuple #[.string (str (s.toList.drop p.toList.length)), .bool true]) ∧ w = w' := by
  refine (Tryz.strings_CutPrefix s p w).mono ?_
  rintro e w' ⟨rfl, rfl⟩
  simp only [data_list] at *
  refine ⟨?_, trivial⟩
  simp only [Lib.trimPrefix, Lib.hasPrefix, hp, if_true]
  rfl
theorem cutp_no (s p : ByteArray) (w : World) (hp : p.toList.isPrefixOf s.toList = false) :
    Calls Tryz.prog 99 #[.string s, .string p] w fun e w' => e = .returned (.tuple #[.string s, .bool false]) ∧ w = w' := by
  refine (Tryz.strings_CutPrefix s p w).mono ?_
  rintro e w' ⟨rfl, rfl⟩
  simp only [data_list] at *
  refine ⟨?_, trivial⟩
  simp only [Lib.trimPrefix, Lib.hasPrefix, hp]
  simp
theorem cuts_c (s p : ByteArray) (w : World) (hs : s.size ≤ 9223372036854775807) (hp : p.toList.isSuffixOf s.toList = true) :
    Calls Tryz.prog 100 #[.string s, .string p] w fun e w' => e = .returned (.tuple #[.string (str (s.toList.take (s.toList.length - p.toList.length))), .bool true]) ∧ w = w' := by
  refine (Tryz.strings_CutSuffix s p w hs).mono ?_
  rintro e w' ⟨rfl, rfl⟩
  simp only [data_list] at *
  refine ⟨?_, trivial⟩
  simp only [Lib.trimSuffix, Lib.hasSuffix, hp, if_true]
  rfl
theorem cuts_no (s p : ByteArray) (w : World) (hs : s.size ≤ 9223372036854775807) (hp : p.toList.isSuffixOf s.toList = false) :
    Calls Tryz.prog 100 #[.string s, .string p] w fun e w' => e = .returned (.tuple #[.string s, .bool false]) ∧ w = w' := by
  refine (Tryz.strings_CutSuffix s p w hs).mono ?_
  rintro e w' ⟨rfl, rfl⟩
  simp only [data_list] at *
  refine ⟨?_, trivial⟩
  simp only [Lib.trimSuffix, Lib.hasSuffix, hp]
  simp
theorem hasp_c (s p : ByteArray) (w : World) :
    Calls Tryz.prog 73 #[.string s, .string p] w fun e w' => e = .returned (.bool (p.toList.isPrefixOf s.toList)) ∧ w = w' := by
  refine (Tryz.strings_HasPrefix s p w).mono ?_
  rintro e w' ⟨rfl, rfl⟩
  simp only [data_list]
  exact ⟨rfl, trivial⟩
theorem str_size (l : List UInt8) : (str l).size = l.length := by unfold str; simp [ByteArray.size]
theorem size_len (t : ByteArray) : t.size = t.toList.length := by rw [data_list]; simp
theorem ret_isb {k : IntKind} {i j : Int} {s t : ByteArray} {a b : Bool} (h0 : i = j) (h1 : s = t) (h2 : a = b) : Ending.returned (.tuple #[.int k i, .string s, .bool a]) = .returned (.tuple #[.int k j, .string t, .bool b]) := by rw [h0, h1, h2]
set_option maxHeartbeats 4000000 in
theorem cut_c (t : ByteArray) (w : World) (ht : t.size ≤ 1048576) :
    Calls Tryz.prog 61 #[.string t] w fun e w' => e = .returned (.tuple #[.int .i64 (cutL t.toList).1, .string (str (cutL t.toList).2.1), .bool (cutL t.toList).2.2]) ∧ w = w' := by
  have hsz : t.toList.length ≤ 1048576 := by rw [← size_len]; exact ht
  rcases h1 : [99, 104, 97, 110, 60, 45, 32].isPrefixOf t.toList with _ | _
  · rcases h2 : [60, 45, 99, 104, 97, 110, 32].isPrefixOf t.toList with _ | _
    · rcases h3 : [99, 104, 97, 110, 32].isPrefixOf t.toList with _ | _
      · have H : Hid (cutL t.toList = (0, [], false)) := by show _ = _; simp only [cutL, h1, h2, h3]; rfl
        have H1 := Lib.hid h1
        have H2 := Lib.hid h2
        have H3 := Lib.hid h3
        clear h1 h2 h3 hsz
        go_enter Tryz.func61, Tryz.ntmps61
        go_wp2_with (first
          | (go_at_call 99; (with_reducible refine (cutp_no t ⟨#[99, 104, 97, 110, 60, 45, 32]⟩ _ ?hp).mono ?_); (case hp => exact (by rw [data_list]; exact H1.out)); rintro e w' ⟨rfl, rfl⟩)
          | (go_at_call 99; (with_reducible refine (cutp_no t ⟨#[60, 45, 99, 104, 97, 110, 32]⟩ _ ?hp).mono ?_); (case hp => exact (by rw [data_list]; exact H2.out)); rintro e w' ⟨rfl, rfl⟩)
          | (go_at_call 99; (with_reducible refine (cutp_no t ⟨#[99, 104, 97, 110, 32]⟩ _ ?hp).mono ?_); (case hp => exact (by rw [data_list]; exact H3.out)); rintro e w' ⟨rfl, rfl⟩))
        go_ret3
        exact ⟨by rw [H.out]; rfl, rfl⟩
      · rcases h4 : [40].isPrefixOf (t.toList.drop 5) with _ | _
        · have H : Hid (cutL t.toList = (0, t.toList.drop 5, !([60, 45].isPrefixOf (t.toList.drop 5)))) := by show _ = _; simp only [cutL, h1, h2, h3, h4, if_true]; rfl
          have H1 := Lib.hid h1
          have H2 := Lib.hid h2
          have H3 := Lib.hid h3
          have H4 := Lib.hid h4
          clear h1 h2 h3 h4 hsz
          go_enter Tryz.func61, Tryz.ntmps61
          go_wp2_with (first
            | (go_at_call 99; (with_reducible refine (cutp_no t ⟨#[99, 104, 97, 110, 60, 45, 32]⟩ _ ?hp).mono ?_); (case hp => exact (by rw [data_list]; exact H1.out)); rintro e w' ⟨rfl, rfl⟩)
            | (go_at_call 99; (with_reducible refine (cutp_no t ⟨#[60, 45, 99, 104, 97, 110, 32]⟩ _ ?hp).mono ?_); (case hp => exact (by rw [data_list]; exact H2.out)); rintro e w' ⟨rfl, rfl⟩)
            | (go_at_call 99; (with_reducible refine (cutp_c t ⟨#[99, 104, 97, 110, 32]⟩ _ ?hp).mono ?_); (case hp => exact (by rw [data_list]; exact H3.out)); rintro e w' ⟨rfl, rfl⟩)
            | (go_at_call 99; (with_reducible refine (cutp_no _ ⟨#[40]⟩ _ ?hp).mono ?_); (case hp => exact (by rw [str_list, data_list]; exact H4.out)); rintro e w' ⟨rfl, rfl⟩)
            | (go_at_call 73; refine (hasp_c _ _ _).mono ?_; rintro e w' ⟨rfl, rfl⟩))
          go_ret3
          refine ⟨?_, rfl⟩
          rw [H.out]
          exact ret_isb rfl rfl (by rw [str_list]; try rfl)
        · rcases h5 : [41].isSuffixOf ((t.toList.drop 5).drop 1) with _ | _
          · have H : Hid (cutL t.toList = (0, (t.toList.drop 5).drop 1, false)) := by show _ = _; simp only [cutL, h1, h2, h3, h4, h5, if_true]; rfl
            have H1 := Lib.hid h1
            have H2 := Lib.hid h2
            have H3 := Lib.hid h3
            have H4 := Lib.hid h4
            have H5 := Lib.hid h5
            clear h1 h2 h3 h4 h5
            go_enter Tryz.func61, Tryz.ntmps61
            go_wp2_with (first
              | (go_at_call 99; (with_reducible refine (cutp_no t ⟨#[99, 104, 97, 110, 60, 45, 32]⟩ _ ?hp).mono ?_); (case hp => exact (by rw [data_list]; exact H1.out)); rintro e w' ⟨rfl, rfl⟩)
              | (go_at_call 99; (with_reducible refine (cutp_no t ⟨#[60, 45, 99, 104, 97, 110, 32]⟩ _ ?hp).mono ?_); (case hp => exact (by rw [data_list]; exact H2.out)); rintro e w' ⟨rfl, rfl⟩)
              | (go_at_call 99; (with_reducible refine (cutp_c t ⟨#[99, 104, 97, 110, 32]⟩ _ ?hp).mono ?_); (case hp => exact (by rw [data_list]; exact H3.out)); rintro e w' ⟨rfl, rfl⟩)
              | (go_at_call 99; (with_reducible refine (cutp_c _ ⟨#[40]⟩ _ ?hp).mono ?_); (case hp => exact (by rw [str_list, data_list]; exact H4.out)); rintro e w' ⟨rfl, rfl⟩)
              | (go_at_call 100; refine (cuts_no _ ⟨#[41]⟩ _ ?hz ?hp).mono ?_; (case hz => (simp only [str_size, str_list, List.length_tail, List.length_drop]; omega)); (case hp => exact (by rw [str_list, str_list, data_list ⟨#[41]⟩, ← List.drop_one]; exact H5.out)); rintro e w' ⟨rfl, rfl⟩)
              | (go_at_call 73; refine (hasp_c _ _ _).mono ?_; rintro e w' ⟨rfl, rfl⟩))
            go_ret3
            exact ⟨by rw [H.out]; exact ret_isb rfl (by simp only [str_list, List.drop_one]) rfl, rfl⟩
          · have H : Hid (cutL t.toList = (0, ((t.toList.drop 5).drop 1).take (((t.toList.drop 5).drop 1).length - 1), [60, 45].isPrefixOf (((t.toList.drop 5).drop 1).take (((t.toList.drop 5).drop 1).length - 1)))) := by show _ = _; simp only [cutL, h1, h2, h3, h4, h5, if_true]; rfl
            have H1 := Lib.hid h1
            have H2 := Lib.hid h2
            have H3 := Lib.hid h3
            have H4 := Lib.hid h4
            have H5 := Lib.hid h5
            clear h1 h2 h3 h4 h5
            go_enter Tryz.func61, Tryz.ntmps61
            go_wp2_with (first
              | (go_at_call 99; (with_reducible refine (cutp_no t ⟨#[99, 104, 97, 110, 60, 45, 32]⟩ _ ?hp).mono ?_); (case hp => exact (by rw [data_list]; exact H1.out)); rintro e w' ⟨rfl, rfl⟩)
              | (go_at_call 99; (with_reducible refine (cutp_no t ⟨#[60, 45, 99, 104, 97, 110, 32]⟩ _ ?hp).mono ?_); (case hp => exact (by rw [data_list]; exact H2.out)); rintro e w' ⟨rfl, rfl⟩)
              | (go_at_call 99; (with_reducible refine (cutp_c t ⟨#[99, 104, 97, 110, 32]⟩ _ ?hp).mono ?_); (case hp => exact (by rw [data_list]; exact H3.out)); rintro e w' ⟨rfl, rfl⟩)
              | (go_at_call 99; (with_reducible refine (cutp_c _ ⟨#[40]⟩ _ ?hp).mono ?_); (case hp => exact (by rw [str_list, data_list]; exact H4.out)); rintro e w' ⟨rfl, rfl⟩)
              | (go_at_call 100; refine (cuts_c _ ⟨#[41]⟩ _ ?hz ?hp).mono ?_; (case hz => (simp only [str_size, str_list, List.length_tail, List.length_drop]; omega)); (case hp => exact (by rw [str_list, str_list, data_list ⟨#[41]⟩, ← List.drop_one]; exact H5.out)); rintro e w' ⟨rfl, rfl⟩)
              | (go_at_call 73; refine (hasp_c _ _ _).mono ?_; rintro e w' ⟨rfl, rfl⟩))
            go_ret3
            refine ⟨?_, rfl⟩
            rw [H.out]
            exact ret_isb rfl (by simp only [str_list, List.drop_one] <;> rfl) (by simp only [str_list, List.drop_one] <;> rfl)
    · have H : Hid (cutL t.toList = (2, t.toList.drop 7, true)) := by show _ = _; simp only [cutL, h1, h2, if_true]; rfl
      have H1 := Lib.hid h1
      have H2 := Lib.hid h2
      clear h1 h2 hsz
      go_enter Tryz.func61, Tryz.ntmps61
      go_wp2_with (first
        | (go_at_call 99; (with_reducible refine (cutp_no t ⟨#[99, 104, 97, 110, 60, 45, 32]⟩ _ ?hp).mono ?_); (case hp => exact (by rw [data_list]; exact H1.out)); rintro e w' ⟨rfl, rfl⟩)
        | (go_at_call 99; (with_reducible refine (cutp_c t ⟨#[60, 45, 99, 104, 97, 110, 32]⟩ _ ?hp).mono ?_); (case hp => exact (by rw [data_list]; exact H2.out)); rintro e w' ⟨rfl, rfl⟩))
      go_ret3
      exact ⟨by rw [H.out]; rfl, rfl⟩
  · have H : Hid (cutL t.toList = (1, t.toList.drop 7, true)) := by show _ = _; simp only [cutL, h1, if_true]
    have H1 := Lib.hid h1
    clear h1 hsz
    go_enter Tryz.func61, Tryz.ntmps61
    go_wp2_with (go_at_call 99; (with_reducible refine (cutp_c t ⟨#[99, 104, 97, 110, 60, 45, 32]⟩ _ ?hp).mono ?_); (case hp => exact (by rw [data_list]; exact H1.out)); rintro e w' ⟨rfl, rfl⟩)
    go_ret3
    exact ⟨by rw [H.out]; rfl, rfl⟩
theorem measN_plain {t : List UInt8} (h : plainL t = true) : measN t = some 0 := by rw [measN, if_pos h]
theorem measN_cut {t : List UInt8} (h : plainL t = false) (h2 : (cutL t).2.2 = true) : measN t = (measN (cutL t).2.1).map (· + 1) := by rw [measN, if_neg (by simp [h]), dif_pos h2]
theorem measN_no {t : List UInt8} (h : plainL t = false) (h2 : (cutL t).2.2 = false) : measN t = none := by rw [measN, if_neg (by simp [h]), dif_neg (by simp [h2])]
theorem ret_ib2 {k : IntKind} {i j : Int} {a b : Bool} (h0 : i = j) (h : a = b) : Ending.returned (.tuple #[.int k i, .bool a]) = .returned (.tuple #[.int k j, .bool b]) := by rw [h0, h]
set_option maxHeartbeats 4000000 in
theorem measure_c (t : ByteArray) (w : World) (ht : t.size ≤ 1048576) :
    Calls Tryz.prog 49 #[.string t] w fun e w' => e = .returned (.tuple #[.int .i64 ((measN t.toList).getD 0 : Nat), .bool (tyB t)]) ∧ w = w' := by
  have hsz : t.toList.length ≤ 1048576 := by rw [← size_len]; exact ht
  go_enter Tryz.func49, Tryz.ntmps49
  go_wp2
  go_loop [0, 4, 5, 6, 7] (fun v u _ _ _ => ∃ (cur : ByteArray) (n : Nat), v = .string cur ∧ u = .int .i64 n ∧ n + cur.toList.length ≤ t.toList.length ∧ Hid (measN t.toList = (measN cur.toList).map (· + n))) (fun v _ _ _ _ => (strOf v).size)
  case atStart => exact ⟨t, 0, rfl, rfl, by omega, by show _ = _; cases measN t.toList <;> rfl⟩
  case round =>
    obtain ⟨cur, n, rfl, rfl, hle, H⟩ := hrel
    rcases hp : plainL cur.toList with _ | _
    · rcases hc : (cutL cur.toList).2.2 with _ | _
      · have HE : Hid ((measN t.toList).getD 0 = 0 ∧ tyB t = false) := by
          have h1 := H.out
          rw [measN_no hp hc] at h1
          show _ ∧ _
          unfold tyB
          rw [h1]
          exact ⟨rfl, rfl⟩
        simp only [plainL, Bool.or_eq_false_iff] at hp
        obtain ⟨⟨⟨p1, p2⟩, p3⟩, p4⟩ := hp
        clear H
        go_wp2_with (go_at_call 61; refine (cut_c _ _ (by rw [size_len]; omega)).mono ?_; rintro e w' ⟨rfl, rfl⟩)
        go_ret2
        exact ⟨ret_ib2 (by rw [HE.out.1]; rfl) HE.out.2.symm, rfl⟩
      · have hl := cutL_len _ hc
        have HE : Hid (measN t.toList = (measN (cutL cur.toList).2.1).map (· + (n + 1))) := by
          have h1 := H.out
          rw [measN_cut hp hc] at h1
          show _ = _
          rw [h1]
          cases measN (cutL cur.toList).2.1 with
          | none => rfl
          | some m => exact congrArg some (by show m + 1 + n = m + (n + 1); omega)
        simp only [plainL, Bool.or_eq_false_iff] at hp
        obtain ⟨⟨⟨p1, p2⟩, p3⟩, p4⟩ := hp
        clear H
        go_wp2_with (go_at_call 61; refine (cut_c _ _ (by rw [size_len]; omega)).mono ?_; rintro e w' ⟨rfl, rfl⟩)
        exact ⟨⟨str (cutL cur.toList).2.1, n + 1, rfl, by go_num, by rw [str_list]; omega, by rw [str_list]; exact HE⟩, by simp only [strOf]; rw [size_len, size_len, str_list]; exact hl⟩
    · have HE : Hid ((measN t.toList).getD 0 = n ∧ tyB t = decide (n ≤ 40)) := by
        have h1 := H.out
        rw [measN_plain hp] at h1
        show _ ∧ _
        unfold tyB
        rw [h1]
        simp
      simp only [plainL, Bool.or_eq_true] at hp
      clear H
      rcases hp with ((hp | hp) | hp) | hp
      all_goals (have hq := beq_iff_eq.1 hp; clear hp)
      all_goals go_wp2_with fail
      all_goals go_ret2
      all_goals exact ⟨ret_ib2 (by rw [HE.out.1]) (by rw [HE.out.2]; exact decide_eq_decide.2 (by omega)), rfl⟩
set_option maxHeartbeats 4000000 in
theorem tyright_c (t : ByteArray) (w : World) (ht : t.size ≤ 1048576) :
    Calls Tryz.prog 37 #[.string t] w fun e w' => e = .returned (.bool (tyB t)) ∧ w = w' := by
  go_enter Tryz.func37, Tryz.ntmps37
  go_wp2_with (go_at_call 49; refine (measure_c _ _ ht).mono ?_; rintro e w' ⟨rfl, rfl⟩)
  go_ret
  exact ⟨rfl, rfl⟩
end Go.Proofs.YtjdeomenioagdaaGreatDoor
