/- What the library's functions come to, where the shelf has no word of it. -/
import Derived.Test.YtjdeomenioagdaaGreatDoorRead
import Derived.Test.YtjdeomenioagdaaGreatDoorShelf
import Derived.Shelf.Strings.SlTrimAscii
set_option linter.unusedVariables false
set_option linter.unusedSimpArgs false
namespace Go.Proofs.YtjdeomenioagdaaGreatDoor
open Go.RowKit
set_option maxHeartbeats 4000000 in
theorem less_c (x y : ByteArray) (w : World) : Calls Tryz.prog 135 #[.string x, .string y] w fun e w' => e = .returned (.bool (Op.bytesLess x.toList y.toList)) ∧ w = w' := by
  go_enter Tryz.func135, Tryz.ntmps135
  go_wp2
  all_goals go_ret
  all_goals exact ⟨ret_bool (by simp_all), rfl⟩
set_option maxHeartbeats 4000000 in
theorem isNaN_c (x : ByteArray) (w : World) : Calls Tryz.prog 136 #[.string x] w fun e w' => e = .returned (.bool false) ∧ w = w' := by
  go_enter Tryz.func136, Tryz.ntmps136
  go_wp2
  all_goals go_ret
  all_goals exact ⟨ret_bool (by simp_all), rfl⟩
theorem ret_ib {k : IntKind} {i : Int} {a b : Bool} (h : a = b) : Ending.returned (.tuple #[.int k i, .bool a]) = .returned (.tuple #[.int k i, .bool b]) := by rw [h]
/-- A search by halves. -/
def bsF (f : Nat → Bool) : Nat → Nat → Nat → Nat
  | 0, i, _ => i
  | k + 1, i, j => if i < j then (if f ((i + j) / 2) then bsF f k ((i + j) / 2 + 1) j else bsF f k i ((i + j) / 2)) else i
theorem bsF_le (f : Nat → Bool) : ∀ k i j, i ≤ j → bsF f k i j ≤ j := by
  intro k
  induction k with
  | zero => intro i j h; exact h
  | succ k ih =>
    intro i j h
    simp only [bsF]
    split
    · split
      · exact ih _ _ (by omega)
      · exact Nat.le_trans (ih _ _ (by omega)) (by omega)
    · exact h
theorem bsF_step (f : Nat → Bool) (k i j : Nat) (h : i < j) : bsF f (k + 1) i j = if f ((i + j) / 2) then bsF f k ((i + j) / 2 + 1) j else bsF f k i ((i + j) / 2) := by simp only [bsF]; rw [if_pos h]
theorem bsF_more (f : Nat → Bool) : ∀ k i j, j - i ≤ k → bsF f (k + 1) i j = bsF f k i j := by
  intro k
  induction k with
  | zero => intro i j h; simp only [bsF]; rw [if_neg (by omega)]
  | succ k ih =>
    intro i j h
    rw [bsF]
    conv => rhs; rw [bsF]
    split
    · split
      · exact ih _ _ (by omega)
      · exact ih _ _ (by omega)
    · rfl
theorem bsF_any (f : Nat → Bool) (k i j : Nat) (h : j - i ≤ k) : bsF f k i j = bsF f (j - i) i j := by
  obtain ⟨d, rfl⟩ : ∃ d, k = (j - i) + d := ⟨k - (j - i), by omega⟩
  clear h
  induction d with
  | zero => rfl
  | succ d ih => rw [show j - i + (d + 1) = (j - i + d) + 1 from rfl, bsF_more f _ _ _ (by omega), ih]
set_option maxHeartbeats 4000000 in
theorem search_c (b n c : Nat) (S : Nat → ByteArray) (x : ByteArray) (w : World) (hn : n ≤ 1000) (hc : ∀ j, j < n → w.cell? ⟨b, j, none⟩ = some (.string (S j))) :
    Calls Tryz.prog 90 #[.slice (some ⟨b, 0, none⟩) n c, .string x] w fun e w' =>
      e = .returned (.tuple #[.int .i64 (bsF (fun t => Op.bytesLess (S t).toList x.toList) n 0 n), .bool (decide (bsF (fun t => Op.bytesLess (S t).toList x.toList) n 0 n < n) && (S (bsF (fun t => Op.bytesLess (S t).toList x.toList) n 0 n)).toList == x.toList)]) ∧ w = w' := by
  go_enter Tryz.func90, Tryz.ntmps90
  go_wp2
  go_loop [7, 8] (fun v u => ∃ i j : Nat, i ≤ j ∧ j ≤ n ∧ v = .int .i64 i ∧ u = .int .i64 j ∧ Hid (bsF (fun t => Op.bytesLess (S t).toList x.toList) n 0 n = bsF (fun t => Op.bytesLess (S t).toList x.toList) (j - i) i j)) (fun v u => (intOf u - intOf v).toNat)
  case atStart => exact ⟨0, n, by omega, by omega, rfl, rfl, rfl⟩
  case round =>
    obtain ⟨i, j, hij, hjn, rfl, rfl, H⟩ := hrel
    by_cases hlt : i < j
    · have hcell := hc ((i + j) / 2) (by omega)
      clear hc
      have h1 := bsF_step (fun t => Op.bytesLess (S t).toList x.toList) (j - i - 1) i j hlt
      rw [show j - i - 1 + 1 = j - i from by omega] at h1
      have hL := bsF_any (fun t => Op.bytesLess (S t).toList x.toList) (j - i - 1) ((i + j) / 2 + 1) j (by omega)
      have hR := bsF_any (fun t => Op.bytesLess (S t).toList x.toList) (j - i - 1) i ((i + j) / 2) (by omega)
      have H1 := Lib.hid h1
      have HL := Lib.hid hL
      have HR := Lib.hid hR
      clear h1 hL hR
      have tok : Op.bytesLess (S ((i + j) / 2)).toList x.toList = true ∨ Op.bytesLess (S ((i + j) / 2)).toList x.toList = false := by cases Op.bytesLess (S ((i + j) / 2)).toList x.toList <;> simp
      rcases tok with hb | hb
      · go_wp2_with (go_at_call 135; refine (less_c _ _ _).mono ?_; rintro e w' ⟨rfl, rfl⟩)
        refine ⟨⟨(i + j) / 2 + 1, j, by omega, by omega, by go_num, rfl, ?_⟩, by simp [intOf]; omega⟩
        show _ = _
        rw [H.out, H1.out, if_pos hb, HL.out]
      · go_wp2_with (go_at_call 135; refine (less_c _ _ _).mono ?_; rintro e w' ⟨rfl, rfl⟩)
        refine ⟨⟨i, (i + j) / 2, by omega, by omega, rfl, by go_num, ?_⟩, by simp [intOf]; omega⟩
        show _ = _
        rw [H.out, H1.out, if_neg (by simp [hb]), HR.out]
    · have he : bsF (fun t => Op.bytesLess (S t).toList x.toList) n 0 n = i := by
        rw [H.out, show j - i = 0 from by omega]; rfl
      have HE := Lib.hid he
      clear H he
      by_cases hin : i < n
      · have hcell := hc i hin
        clear hc
        go_wp2_with (go_at_call 136; refine (isNaN_c _ _).mono ?_; rintro e w' ⟨rfl, rfl⟩)
        all_goals go_ret2
        all_goals exact ⟨by rw [HE.out]; exact ret_ib (by rw [decide_eq_true hin, Bool.true_and] <;> first | rfl | (symm; exact beq_iff_eq.2 (by assumption)) | (symm; exact beq_eq_false_iff_ne.2 (by assumption))), rfl⟩
      · go_wp2_with (go_at_call 136; refine (isNaN_c _ _).mono ?_; rintro e w' ⟨rfl, rfl⟩)
        all_goals go_ret2
        all_goals exact ⟨by rw [HE.out]; exact ret_ib (by rw [decide_eq_false hin]; rfl), rfl⟩
theorem strs_at (l : List (List UInt8)) (j : Nat) (h : j < l.length) : ((l.map fun x => Value.string (str x)).toArray)[j]? = some (.string (str (l.getD j []))) := by
  simp [h]
theorem cell_new (w : World) (cs : Array Value) (t : TypeId) (j : Nat) : (w.alloc (.cells cs t)).cell? ⟨w.heap.size, j, none⟩ = cs[j]? := cell_of_row _ _ _ _ _ _ (heap_alloc_new w _)
def WordsAt (w : World) (e : Ending) (w' : World) : Prop := ∃ b, e = .returned (.slice (some ⟨b, 0, none⟩) 28 28) ∧ Below w.heap.size w w' ∧ ∀ j, j < 28 → w'.cell? ⟨b, j, none⟩ = some (.string (str (wordsL.getD j [])))
theorem words_c (w : World) : Calls Tryz.prog 91 #[] w (WordsAt w) := by
  go_enter Tryz.func91, Tryz.ntmps91
  go_wp2
  go_ret
  refine ⟨_, rfl, (Below.refl _ _).alloc (Nat.le_refl _) _, ?_⟩
  intro j hj
  rw [cell_new]
  exact strs_at wordsL j hj
theorem data_list (t : ByteArray) : t.toList = t.data.toList := Go.Lib.toList_data t
theorem str_list (l : List UInt8) : (str l).toList = l := by rw [data_list]; rfl
theorem list_str (t : ByteArray) : str t.toList = t := by rw [data_list]; cases t; simp [str]
theorem bs_words : ∀ m, m < 28 → bsF (fun t => Op.bytesLess (str (wordsL.getD t [])).toList (str (wordsL.getD m [])).toList) 28 0 28 = m := by
  simp only [str, data_list]
  decide
theorem words_found (x : ByteArray) : (decide (bsF (fun t => Op.bytesLess (str (wordsL.getD t [])).toList x.toList) 28 0 28 < 28) && (str (wordsL.getD (bsF (fun t => Op.bytesLess (str (wordsL.getD t [])).toList x.toList) 28 0 28) [])).toList == x.toList) = wordB x := by
  by_cases h : x.toList ∈ wordsL
  · obtain ⟨m, hm, he⟩ := List.getElem_of_mem h
    have hx : x = str (wordsL.getD m []) := by
      have h1 : wordsL.getD m [] = x.toList := by simp [List.getD, he, hm]
      rw [h1]
      exact (list_str x).symm
    subst hx
    have h28 : m < 28 := hm
    rw [bs_words m h28]
    simp only [h28, decide_true, Bool.true_and, beq_self_eq_true]
    exact (List.contains_iff_mem.2 h).symm
  · have hw : wordB x = false := by
      unfold wordB
      rw [Bool.eq_false_iff]
      exact fun hc => h (List.contains_iff_mem.1 hc)
    rw [hw]
    rw [Bool.and_eq_false_iff]
    by_cases hl : bsF (fun t => Op.bytesLess (str (wordsL.getD t [])).toList x.toList) 28 0 28 < 28
    · right
      rw [beq_eq_false_iff_ne]
      intro he
      apply h
      rw [← he]
      have : (str (wordsL.getD (bsF (fun t => Op.bytesLess (str (wordsL.getD t [])).toList x.toList) 28 0 28) [])).toList = wordsL.getD (bsF (fun t => Op.bytesLess (str (wordsL.getD t [])).toList x.toList) 28 0 28) [] := str_list _
      rw [this]
      generalize bsF (fun t => Op.bytesLess (str (wordsL.getD t [])).toList x.toList) 28 0 28 = i at hl
      have hl' : i < wordsL.length := hl
      rw [List.getD_eq_getElem?_getD, List.getElem?_eq_getElem hl']
      exact List.getElem_mem hl'
    · left
      exact decide_eq_false hl
set_option maxHeartbeats 4000000 in
theorem word_c (x : ByteArray) (w : World) : Calls Tryz.prog 59 #[.string x] w fun e w' => e = .returned (.bool (wordB x)) ∧ Below w.heap.size w w' := by
  have hf := Lib.hid (words_found x)
  go_enter Tryz.func59, Tryz.ntmps59
  go_wp2_with (first
    | (go_at_call 91; refine (words_c _).mono ?_; rintro e w1 ⟨b, rfl, hb, hc⟩)
    | (go_at_call 90; refine (search_c b 28 28 (fun j => str (wordsL.getD j [])) x _ (by omega) hc).mono ?_; rintro e w2 ⟨rfl, rfl⟩))
  all_goals go_ret
  exact ⟨ret_bool hf.out, hb⟩
def cutset : List UInt8 := [48, 49, 50, 51, 52, 53, 54, 55, 56, 57, 95, 97, 98, 99, 100, 101, 102, 103, 104, 105, 106, 107, 108, 109, 110, 111, 112, 113, 114, 115, 116, 117, 118, 119, 120, 121, 122, 65, 66, 67, 68, 69, 70, 71, 72, 73, 74, 75, 76, 77, 78, 79, 80, 81, 82, 83, 84, 85, 86, 87, 88, 89, 90]
theorem dropWhile_nil {p : UInt8 → Bool} {l : List UInt8} : l.dropWhile p = [] ↔ ∀ c ∈ l, p c = true := by
  induction l with
  | nil => simp
  | cons a r ih => by_cases h : p a <;> simp [List.dropWhile_cons, h, ih]
theorem trimS_nil (l cs : List UInt8) : (Lib.trimS l cs).isEmpty = l.all cs.contains := by
  unfold Lib.trimS Lib.trimLeftS Lib.trimRightS
  rw [Bool.eq_iff_iff, List.isEmpty_iff, dropWhile_nil, List.all_eq_true]
  constructor
  · intro h c hc
    by_cases hn : cs.contains c = true
    · exact hn
    · exfalso
      apply hn
      apply h
      rw [List.mem_reverse]
      have h1 : c ∈ l.reverse := List.mem_reverse.2 hc
      rw [← List.takeWhile_append_dropWhile (p := (cs.contains ·)) (l := l.reverse), List.mem_append] at h1
      rcases h1 with h1 | h1
      · exact absurd (by have := List.all_takeWhile (p := (cs.contains ·)) (l := l.reverse); rw [List.all_eq_true] at this; exact this c h1) hn
      · exact h1
  · intro h c hc
    rw [List.mem_reverse] at hc
    exact h c (List.mem_reverse.1 ((List.dropWhile_sublist _).subset hc))
theorem trim_c (s : ByteArray) (w : World) (hs : s.size ≤ 1048576) :
    Calls Tryz.prog 60 #[.string s, .string (str cutset)] w fun e w' => e = .returned (.string (str (Lib.trimS s.data.toList cutset))) ∧ Below w.heap.size w w' :=
  Any.strings_Trim_ascii Tryz.lays160 (fun w => by kernel_rfl) (by kernel_rfl) s (str cutset) w (by omega) (by decide) (by
    intro j b hb
    have : ∀ x ∈ cutset, x.toNat < 128 := by decide
    exact this b (List.mem_of_getElem? hb))
theorem head_of {t : ByteArray} (h : 0 < t.size) : ∃ r, t.toList = t[0] :: r := by
  rw [data_list]
  have h' : 0 < t.data.toList.length := by simpa using h
  match hl : t.data.toList with
  | [] => rw [hl] at h'; cases h'
  | c :: r =>
    refine ⟨r, ?_⟩
    have : t[0] = t.data.toList[0] := rfl
    rw [this]
    simp only [hl, List.getElem_cons_zero]
theorem nm1 {t : ByteArray} (h : t.toList = []) : false = nameB t := by unfold nameB; rw [h]; simp [nameL]
theorem nm2 {t : ByteArray} (h : 30 < (t.size : Int)) : false = nameB t := by unfold nameB; rw [decide_eq_false (by omega)]; rfl
theorem nm3 {t : ByteArray} (hp : 0 < t.size) (h1 : 48 ≤ (t[0].toNat : Int)) (h2 : (t[0].toNat : Int) ≤ 57) : false = nameB t := by
  obtain ⟨r, hr⟩ := head_of hp
  unfold nameB
  rw [hr]
  have hl : letterB t[0] = false := by
    generalize t[0] = c at h1 h2
    simp only [letterB, Bool.or_eq_false_iff, Bool.and_eq_false_iff, decide_eq_false_iff_not, UInt8.le_iff_toNat_le, beq_eq_false_iff_ne, ne_eq]
    refine ⟨⟨.inl (by simp; omega), .inl (by simp; omega)⟩, fun e => by subst e; simp at h2⟩
  simp [nameL, hl]
theorem nm4 {t : ByteArray} (h : wordB t = true) : false = nameB t := by unfold nameB; rw [h]; simp
theorem in_cutset (c : UInt8) : cutset.contains c = (letterB c || digitB c) := by
  have : ∀ n : Fin 256, cutset.contains (UInt8.ofNat n.val) = (letterB (UInt8.ofNat n.val) || digitB (UInt8.ofNat n.val)) := by decide +kernel
  have h := this ⟨c.toNat, c.toNat_lt⟩
  simpa using h
theorem nm5 {t : ByteArray} (hp : 0 < t.size) (h30 : (t.size : Int) ≤ 30) (hw : wordB t = false) (hd : ¬ (48 ≤ (t[0].toNat : Int) ∧ (t[0].toNat : Int) ≤ 57)) : (str (Lib.trimS t.data.toList cutset)).toList.isEmpty = nameB t := by
  obtain ⟨r, hr⟩ := head_of hp
  rw [str_list, trimS_nil, ← data_list]
  unfold nameB
  rw [hr, hw, decide_eq_true (by omega), show cutset.contains = fun c => letterB c || digitB c from funext in_cutset]
  simp only [List.all_cons, nameL, Bool.true_and, Bool.not_false, Bool.and_true]
  have hdig : digitB t[0] = false := by
    generalize t[0] = c at hd
    simp only [digitB, Bool.and_eq_false_iff, decide_eq_false_iff_not, UInt8.le_iff_toNat_le]
    simp only [UInt8.reduceToNat]
    omega
  rw [hdig, Bool.or_false]
set_option maxHeartbeats 4000000 in
theorem name_c {w0 w : World} {B : Nat} (t : ByteArray) (hr : Ro w0 B w) (ht : t.size ≤ 1048576) :
    Calls Tryz.prog 48 #[.string t] w fun e w' => e = .returned (.bool (nameB t)) ∧ Ro w0 B w' := by
  by_cases h0 : t.toList = []
  · have H := Lib.hid (nm1 h0)
    go_enter Tryz.func48, Tryz.ntmps48
    go_wp2_with fail
    go_ret
    exact ⟨ret_bool H.out, hr⟩
  have hp : 0 < t.size := by
    rcases Nat.eq_zero_or_pos t.size with h | h
    · exact absurd (List.eq_nil_of_length_eq_zero (by rw [data_list]; simpa using h)) h0
    · exact h
  have h0' : t.toList.isEmpty = false := by simpa using h0
  by_cases h30 : (t.size : Int) ≤ 30
  · by_cases hd : 48 ≤ (t[0].toNat : Int) ∧ (t[0].toNat : Int) ≤ 57
    · obtain ⟨h1, h2⟩ := hd
      have H := Lib.hid (nm3 hp h1 h2)
      go_enter Tryz.func48, Tryz.ntmps48
      go_wp2_with fail
      go_ret
      exact ⟨ret_bool H.out, hr⟩
    · have hw : wordB t = true ∨ wordB t = false := by cases wordB t <;> simp
      rcases hw with hw | hw
      · have H := Lib.hid (nm4 hw)
        rcases (by omega : (t[0].toNat : Int) < 48 ∨ 57 < (t[0].toNat : Int)) with hd' | hd'
        all_goals clear hd
        all_goals go_enter Tryz.func48, Tryz.ntmps48
        go_wp2_with (go_at_call 59; refine (word_c _ _).mono ?_; rintro e w1 ⟨rfl, hb1⟩)
        all_goals go_ret
        all_goals exact ⟨ret_bool H.out, hr.below_ hb1⟩
      · have H := Lib.hid (nm5 hp h30 hw hd)
        rcases (by omega : (t[0].toNat : Int) < 48 ∨ 57 < (t[0].toNat : Int)) with hd' | hd'
        all_goals clear hd
        all_goals go_enter Tryz.func48, Tryz.ntmps48
        go_wp2_with (first
          | (go_at_call 59; refine (word_c _ _).mono ?_; rintro e w1 ⟨rfl, hb1⟩)
          | (go_at_call 60; refine (trim_c t _ ht).mono ?_; rintro e w2 ⟨rfl, hb2⟩))
        all_goals go_ret
        all_goals exact ⟨ret_bool H.out, (hr.below_ hb1).below_ hb2⟩
  · have H := Lib.hid (nm2 (t := t) (by omega))
    go_enter Tryz.func48, Tryz.ntmps48
    go_wp2_with fail
    go_ret
    exact ⟨ret_bool H.out, hr⟩
end Go.Proofs.YtjdeomenioagdaaGreatDoor
