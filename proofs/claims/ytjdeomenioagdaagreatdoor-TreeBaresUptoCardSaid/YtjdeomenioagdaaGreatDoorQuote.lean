/- Quoted text, by the program. -/
import Derived.Test.YtjdeomenioagdaaGreatDoorWriter2
set_option linter.unusedVariables false
set_option linter.unusedSimpArgs false
namespace Go.Proofs.YtjdeomenioagdaaGreatDoor
open Go.RowKit
def escB (c : UInt8) : List UInt8 := if c = 10 then [92, 110] else if c = 9 then [92, 116] else if c = 34 ∨ c = 92 then [92, c] else [c]
def quoteS (t : ByteArray) : ByteArray := str (34 :: t.data.toList.flatMap escB ++ [34])
theorem str_append (a b : List UInt8) : str a ++ str b = str (a ++ b) := by
  apply ByteArray.ext
  simp [str]
theorem escB_le (l : List UInt8) : (l.flatMap escB).length ≤ 2 * l.length := by
  induction l with
  | nil => simp
  | cons a r ih =>
    simp only [List.flatMap_cons, List.length_append, List.length_cons]
    have : (escB a).length ≤ 2 := by
      unfold escB
      repeat' split
      all_goals simp
    omega
theorem ws_c {w0 w : World} {B g : Nat} {d : Option Int} {s : ByteArray} (h : St w0 B g d s w) (u : ByteArray) (hm : s.size + u.size ≤ 140737488355328) :
    Calls Tryz.prog 40 #[.pointer (some ⟨g, 0, none⟩), .string u] w fun e w' => (∃ n : Int, e = .returned (.tuple #[.int .i64 n, .nilIface])) ∧ St w0 B g d (s ++ u) w' ∧ Wf g w w' :=
  (writestring_c h u hm).mono fun e w' h => ⟨⟨_, h.1⟩, h.2⟩
theorem u8_ne {c d : UInt8} (h : c ≠ d) : ((c.toNat : Int) == (d.toNat : Int)) = false := by
  rw [beq_eq_false_iff_ne]
  intro e
  exact h (UInt8.toNat_inj.1 (by omega))
theorem u8_eq {c d : UInt8} (h : c = d) : ((c.toNat : Int) == (d.toNat : Int)) = true := by rw [h]; simp
theorem wb34_c {w0 w : World} {B g : Nat} {d : Option Int} {s : ByteArray} (h : St w0 B g d s w) (hm : s.size + 1 ≤ 140737488355328) :
    Calls Tryz.prog 146 #[.pointer (some ⟨g, 0, none⟩), .int .u8 34] w fun e w' => e = .returned .nilIface ∧ St w0 B g d (s ++ str [34]) w' ∧ Wf g w w' := writebyte_c h 34 hm
theorem wb92_c {w0 w : World} {B g : Nat} {d : Option Int} {s : ByteArray} (h : St w0 B g d s w) (hm : s.size + 1 ≤ 140737488355328) :
    Calls Tryz.prog 146 #[.pointer (some ⟨g, 0, none⟩), .int .u8 92] w fun e w' => e = .returned .nilIface ∧ St w0 B g d (s ++ str [92]) w' ∧ Wf g w w' := writebyte_c h 92 hm
set_option maxHeartbeats 40000000 in
set_option maxRecDepth 100000 in
theorem quote_c {w : World} (t : ByteArray) (ht : t.size ≤ 1048576) :
    Calls Tryz.prog 114 #[.string t] w fun e w' => e = .returned (.string (quoteS t)) ∧ Below w.heap.size w w' := by
  have hsz : t.data.toList.length = t.size := Array.length_toList
  have S0 : ∀ W, W = w.alloc (.cells #[.pointer none, .slice none 0 0] 48) → St w w.heap.size w.heap.size none .empty W := by
    rintro W rfl
    exact ⟨(Ro.self w).alloc _, Nat.le_refl _, _, _, .inl rfl, heap_alloc_new w _, World.ownsRow_nil _ _ _ _, fun _ => rfl⟩
  go_enter Tryz.func114, Tryz.ntmps114
  go_wp2_with fail
  obtain ⟨W, hW⟩ : ∃ W, W = w.alloc (.cells #[.pointer none, .slice none 0 0] 48) := ⟨_, rfl⟩
  have hst := S0 W hW
  rw [← hW]
  clear S0 hW
  have hB := Nat.le_refl w.heap.size
  generalize hgz : w.heap.size = g at hst hB ⊢
  go_wp2_with (go_at_call 146; (with_reducible refine (wb34_c hst ?hm).mono ?_); (case hm => (simp)); rintro e w1 ⟨rfl, hs1, hf1⟩)
  go_loopw [4, 5, 9] (fun _ _ u wr => ∃ k : Nat, k ≤ t.size ∧ u = .int .i64 k ∧ St w g g none (str (34 :: (t.data.toList.take k).flatMap escB)) wr) (fun _ _ u _ => (t.size - (intOf u).toNat : Nat))
  case atStart => exact ⟨0, by omega, rfl, by simpa [str] using hs1⟩
  case round =>
    obtain ⟨k, hkl, rfl, hst⟩ := hrel
    by_cases hlt : k < t.size
    · have hz : (str (34 :: (t.data.toList.take k).flatMap escB)).size ≤ 1 + 2 * k := by
        rw [str_size, List.length_cons]
        have := escB_le (t.data.toList.take k)
        rw [List.length_take] at this
        omega
      have HN : ∀ e, e = escB t[k] → str (34 :: (t.data.toList.take (k + 1)).flatMap escB) = str (34 :: (t.data.toList.take k).flatMap escB) ++ str e := by
        rintro e rfl
        rw [List.take_add_one, List.getElem?_eq_getElem (by omega), List.flatMap_append, str_append, List.cons_append]
        simp [ByteArray.getElem_eq_getElem_data]
      have HN := Lib.hid HN
      generalize str (34 :: (t.data.toList.take k).flatMap escB) = s0 at hst HN hz
      obtain ⟨ch, hch⟩ : ∃ ch, ch = t[k] := ⟨_, rfl⟩
      rw [← hch] at HN
      rcases (by clear HN hst; grind : ch = 10 ∨ (ch ≠ 10 ∧ ch = 9) ∨ (ch ≠ 10 ∧ ch ≠ 9 ∧ ch = 34) ∨ (ch ≠ 10 ∧ ch ≠ 9 ∧ ch ≠ 34 ∧ ch = 92) ∨ (ch ≠ 10 ∧ ch ≠ 9 ∧ ch ≠ 34 ∧ ch ≠ 92)) with h | ⟨h1, h⟩ | ⟨h1, h2, h⟩ | ⟨h1, h2, h3, h⟩ | ⟨h1, h2, h3, h4⟩
      · have HE := Lib.hid (HN.out [92, 110] (by rw [h]; simp [escB]))
        have h10 : ((t[k].toNat : Int) == 10) = true := u8_eq (d := 10) (hch ▸ h)
        go_wp2_with (go_at_call 40; refine (ws_c hst ⟨#[92, 110]⟩ (by rw [show ByteArray.size ⟨#[92, 110]⟩ = 2 from rfl]; omega)).mono ?_; rintro e w2 ⟨⟨_, rfl⟩, hs2, hf2⟩)
        exact ⟨⟨k + 1, by omega, by go_num, by rw [HE.out]; exact hs2⟩, by simp [intOf]; omega⟩
      · have HE := Lib.hid (HN.out [92, 116] (by rw [h]; simp [escB]))
        have h10 : ((t[k].toNat : Int) == 10) = false := u8_ne (d := 10) (hch ▸ h1)
        have h9 : ((t[k].toNat : Int) == 9) = true := u8_eq (d := 9) (hch ▸ h)
        go_wp2_with (go_at_call 40; refine (ws_c hst ⟨#[92, 116]⟩ (by rw [show ByteArray.size ⟨#[92, 116]⟩ = 2 from rfl]; omega)).mono ?_; rintro e w2 ⟨⟨_, rfl⟩, hs2, hf2⟩)
        exact ⟨⟨k + 1, by omega, by go_num, by rw [HE.out]; exact hs2⟩, by simp [intOf]; omega⟩
      · have HE := Lib.hid (HN.out [92, ch] (by rw [h]; simp [escB]))
        have h10 : ((t[k].toNat : Int) == 10) = false := u8_ne (d := 10) (hch ▸ h1)
        have h9 : ((t[k].toNat : Int) == 9) = false := u8_ne (d := 9) (hch ▸ h2)
        have h34 : ((t[k].toNat : Int) == 34) = true := u8_eq (d := 34) (hch ▸ h)
        go_wp2_with (first | (go_at_call 146; (with_reducible refine (wb92_c hst ?hm).mono ?_); (case hm => (omega)); rintro e w2 ⟨rfl, hs2, hf2⟩) | (go_at_call 146; (with_reducible refine (writebyte_c hs2 t[k] ?hm).mono ?_); (case hm => (rw [ByteArray.size_append, str_size, List.length_cons, List.length_nil]; omega)); rintro e w3 ⟨rfl, hs3, hf3⟩))
        exact ⟨⟨k + 1, by omega, by go_num, by rw [HE.out, hch]; rw [ByteArray.append_assoc, str_append] at hs3; exact hs3⟩, by simp [intOf]; omega⟩
      · have HE := Lib.hid (HN.out [92, ch] (by rw [h]; simp [escB]))
        have h10 : ((t[k].toNat : Int) == 10) = false := u8_ne (d := 10) (hch ▸ h1)
        have h9 : ((t[k].toNat : Int) == 9) = false := u8_ne (d := 9) (hch ▸ h2)
        have h34 : ((t[k].toNat : Int) == 34) = false := u8_ne (d := 34) (hch ▸ h3)
        have h92 : ((t[k].toNat : Int) == 92) = true := u8_eq (d := 92) (hch ▸ h)
        go_wp2_with (first | (go_at_call 146; (with_reducible refine (wb92_c hst ?hm).mono ?_); (case hm => (omega)); rintro e w2 ⟨rfl, hs2, hf2⟩) | (go_at_call 146; (with_reducible refine (writebyte_c hs2 t[k] ?hm).mono ?_); (case hm => (rw [ByteArray.size_append, str_size, List.length_cons, List.length_nil]; omega)); rintro e w3 ⟨rfl, hs3, hf3⟩))
        exact ⟨⟨k + 1, by omega, by go_num, by rw [HE.out, hch]; rw [ByteArray.append_assoc, str_append] at hs3; exact hs3⟩, by simp [intOf]; omega⟩
      · have HE := Lib.hid (HN.out [ch] (by unfold escB; rw [if_neg h1, if_neg h2, if_neg (by simp [h3, h4])]))
        have h10 : ((t[k].toNat : Int) == 10) = false := u8_ne (d := 10) (hch ▸ h1)
        have h9 : ((t[k].toNat : Int) == 9) = false := u8_ne (d := 9) (hch ▸ h2)
        have h34 : ((t[k].toNat : Int) == 34) = false := u8_ne (d := 34) (hch ▸ h3)
        have h92 : ((t[k].toNat : Int) == 92) = false := u8_ne (d := 92) (hch ▸ h4)
        go_wp2_with (go_at_call 146; (with_reducible refine (writebyte_c hst t[k] ?hm).mono ?_); (case hm => (omega)); rintro e w2 ⟨rfl, hs2, hf2⟩)
        exact ⟨⟨k + 1, by omega, by go_num, by rw [HE.out, hch]; exact hs2⟩, by simp [intOf]; omega⟩
    · have hk : k = t.data.toList.length := by omega
      have hz : (str (34 :: (t.data.toList.take k).flatMap escB)).size ≤ 1 + 2 * k := by
        rw [str_size, List.length_cons]
        have := escB_le (t.data.toList.take k)
        rw [List.length_take] at this
        omega
      have HE : Hid (str (34 :: (t.data.toList.take k).flatMap escB) ++ str [34] = quoteS t) := by
        show _ = _
        subst hk
        rw [List.take_length, str_append, List.cons_append]
        rfl
      go_wp2_with (first
        | (go_at_call 146; (with_reducible refine (wb34_c hst ?hm).mono ?_); (case hm => (omega)); rintro e w2 ⟨rfl, hs2, hf2⟩; rw [HE.out] at hs2)
        | (go_at_call 29; refine (string_c hs2).mono ?_; rintro e w3 ⟨rfl, hr3⟩))
      go_ret
      exact ⟨rfl, hgz ▸ hr3.below⟩
end Go.Proofs.YtjdeomenioagdaaGreatDoor
