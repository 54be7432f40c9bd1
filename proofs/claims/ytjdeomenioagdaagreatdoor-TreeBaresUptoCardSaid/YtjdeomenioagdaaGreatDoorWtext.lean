/- A file is written, by the program. -/
import Derived.Test.YtjdeomenioagdaaGreatDoorWstmt3
import Derived.Test.YtjdeomenioagdaaGreatDoorRight
import Derived.Deep.RegionWith
import Derived.IntWalk
set_option linter.unusedVariables false
set_option linter.unusedSimpArgs false
namespace Go.Proofs.YtjdeomenioagdaaGreatDoor
open Go.RowKit
def paramS (k : Node) : ByteArray := k.text ++ str [32] ++ k.type
def funcS (f : Node) : ByteArray := str [102, 117, 110, 99, 32] ++ f.text ++ str [40] ++ joinS (f.kids.dropLast.map paramS) ++ str [41, 32] ++ (if f.type.toList.isEmpty then .empty else f.type ++ str [32]) ++ strAt (f.kids.map (blockS · 0)) (f.kids.length - 1) ++ str [10]
def textS (n : Node) : ByteArray := partsS (n.kids.map funcS)
def textD (n : Node) : ByteArray := if rightD n = 0 then textS n else .empty
theorem add3d_c {w0 w : World} {B g : Nat} {d : Option Int} {s : ByteArray} (h : St w0 B g d s w) (u1 u2 u3 : ByteArray) (hm : s.size + (u1.size + u2.size + u3.size) ≤ 140737488355328) :
    Calls Tryz.prog 27 #[.pointer (some ⟨g, 0, none⟩), .slice (some ⟨w.heap.size, 0, none⟩) 3 3] (w.alloc (.cells #[.string u1, .string u2, .string u3] 9)).drew fun e w' => e = .returned (.tuple #[]) ∧ St w0 B g d (s ++ u1 ++ u2 ++ u3) w' ∧ Wf g w w' := by
  have hg : w.heap.size ≠ g := by
    obtain ⟨_, p, v, _, hg, _⟩ := h.wr
    have := (Array.getElem?_eq_some_iff.1 hg).1
    omega
  refine (add_c (h.alloc (.cells #[.string u1, .string u2, .string u3] 9)).drew [u1, u2, u3] (heap_alloc_new w _) hg (by simp) ?_).mono ?_
  · simp only [partsS, ByteArray.size_append, ByteArray.size_empty]
    omega
  · rintro e w' ⟨rfl, h1, h2⟩
    refine ⟨rfl, ?_, ((Wf.refl g w).alloc _).drew.trans h2⟩
    simpa only [partsS, ByteArray.append_empty, ByteArray.append_assoc] using h1
theorem func_facts {f : Node} (h : funcB f = true) : 1 ≤ f.kids.length ∧ f.kids.dropLast.all paramB = true ∧ lastB f.kids = true := by
  simp only [funcB, Bool.and_eq_true, decide_eq_true_eq] at h
  exact ⟨h.1.1.1.1.2, h.1.2, h.2⟩
theorem right_all {n : Node} (h : rightD n = 0) : ∀ f ∈ n.kids, funcB f = true := by
  unfold rightD at h
  split at h
  · omega
  · split at h
    · rename_i h2
      simp only [Bool.and_eq_true] at h2
      simpa using h2.2
    · omega
theorem rightD_cases (n : Node) : rightD n = 0 ∨ rightD n = 41 ∨ rightD n = 42 := by
  unfold rightD
  split
  · exact .inr (.inr rfl)
  · split
    · exact .inl rfl
    · exact .inr (.inl rfl)
theorem writer_new (w : World) : St w w.heap.size w.heap.size (some ((0 : Nat) : Int)) .empty (w.alloc (.cells #[.pointer none, .slice none 0 0, .int .i64 0] 50)) := by
  refine ⟨(Ro.self w).alloc _, Nat.le_refl _, .pointer none, .slice none 0 0, .inl rfl, heap_alloc_new w _, ?_, fun _ => rfl⟩
  exact ⟨rfl, .inl ⟨rfl, rfl⟩⟩
set_option maxHeartbeats 40000000 in
set_option maxRecDepth 100000 in
theorem text_c {w0 w : World} {B : Nat} {A : Option Addr} {c : Nat} {n : Node} (he : Env w0 B) (hv : ValAt w0 B A n c) (hr : Ro w0 B w) (hs : n.size ≤ 1048576) (hm : rightD n = 0 → (textS n).size ≤ 140737488355328) :
    Calls Tryz.prog 11 #[.agg #[.int .i64 n.kind, .string n.text, .int .i64 n.n, .string n.type, .int .i64 n.slot, .int .i64 n.at_, .int .i64 n.line, .slice A n.kids.length c]] w fun e w' => e = .returned (.tuple #[.string (textD n), .int .i64 (rightD n)]) ∧ Ro w0 B w' := by
  have hk := hv.kids
  have heW := fun W hr => he.at_ (w := W) hr
  have hnz := right_all (n := n)
  have E : textD n = if rightD n = 0 then textS n else .empty := rfl
  have hcs := rightD_cases n
  generalize hR : rightD n = R at hcs hnz hm E
  have HR := Lib.hid hR
  clear hR
  replace E := Lib.hid E
  rcases (by omega : R ≠ 0 ∨ R = 0) with h0 | h0
  · have q1 : (R == 0) = false := by simpa using h0
    have q2 : (R != 0) = true := by simpa using h0
    clear hcs hnz hm
    have h0 := Lib.hid h0
    go_enter Tryz.func11, Tryz.ntmps11
    go_wp2_with fail
    obtain ⟨W, hW⟩ : ∃ W, W = w.alloc (.cells (nodeV n A c) 25) := ⟨_, rfl⟩
    have hW' : w.alloc (.cells (nodeV n A c) 25) = W := hW.symm
    unfold nodeV at hW'
    rw [hW']
    clear hW'
    have hrW : Ro w0 B W := hW ▸ hr.alloc _
    have gall : ∀ j, W.cell? ⟨w.heap.size, j, none⟩ = (nodeV n A c)[j]? := fun j => by rw [hW]; exact cell_new _ _ _ _
    have gz : w.heap.size < W.heap.size := by rw [hW]; simp
    clear hW
    generalize w.heap.size = g at gall gz ⊢
    have g0 : W.cell? ⟨g, 0, none⟩ = some (.int .i64 n.kind) := gall 0
    have g1 : W.cell? ⟨g, 1, none⟩ = some (.string n.text) := gall 1
    have g2 : W.cell? ⟨g, 2, none⟩ = some (.int .i64 n.n) := gall 2
    have g3 : W.cell? ⟨g, 3, none⟩ = some (.string n.type) := gall 3
    have g4 : W.cell? ⟨g, 4, none⟩ = some (.int .i64 n.slot) := gall 4
    have g5 : W.cell? ⟨g, 5, none⟩ = some (.int .i64 n.at_) := gall 5
    have g6 : W.cell? ⟨g, 6, none⟩ = some (.int .i64 n.line) := gall 6
    have g7 : W.cell? ⟨g, 7, none⟩ = some (.slice A n.kids.length c) := gall 7
    clear gall
    have hkW := hrW.kids hk
    have hnb := hrW.val hv
    have HRC := fun (w : World) (hr : Ro W W.heap.size w) => right_c hnb hr hs
    rw [HR.out] at HRC
    have HRC := Lib.hid HRC
    have hrs := Ro.self W
    go_wp2_with (go_at_call 10; (with_reducible refine (HRC.out _ ?hr).mono ?_); (case hr => first | assumption | exact Ro.alloc (by assumption) _); rintro e w1 ⟨rfl, hr1⟩; have hc1 := hr1.cell)
    go_ret2
    exact ⟨by rw [E.out, if_neg h0.out]; rfl, hrW.trans_ hr1⟩
  · subst h0
    have hm1 : (partsS (n.kids.map funcS)).size ≤ 140737488355328 := hm rfl
    have HNZ := Lib.hid (hnz rfl)
    clear hcs hm hnz
    go_enter Tryz.func11, Tryz.ntmps11
    go_wp2_with fail
    obtain ⟨W, hW⟩ : ∃ W, W = w.alloc (.cells (nodeV n A c) 25) := ⟨_, rfl⟩
    have hW' : w.alloc (.cells (nodeV n A c) 25) = W := hW.symm
    unfold nodeV at hW'
    rw [hW']
    clear hW'
    have hrW : Ro w0 B W := hW ▸ hr.alloc _
    have gall : ∀ j, W.cell? ⟨w.heap.size, j, none⟩ = (nodeV n A c)[j]? := fun j => by rw [hW]; exact cell_new _ _ _ _
    have gz : w.heap.size < W.heap.size := by rw [hW]; simp
    clear hW
    generalize w.heap.size = g at gall gz ⊢
    have g0 : W.cell? ⟨g, 0, none⟩ = some (.int .i64 n.kind) := gall 0
    have g1 : W.cell? ⟨g, 1, none⟩ = some (.string n.text) := gall 1
    have g2 : W.cell? ⟨g, 2, none⟩ = some (.int .i64 n.n) := gall 2
    have g3 : W.cell? ⟨g, 3, none⟩ = some (.string n.type) := gall 3
    have g4 : W.cell? ⟨g, 4, none⟩ = some (.int .i64 n.slot) := gall 4
    have g5 : W.cell? ⟨g, 5, none⟩ = some (.int .i64 n.at_) := gall 5
    have g6 : W.cell? ⟨g, 6, none⟩ = some (.int .i64 n.line) := gall 6
    have g7 : W.cell? ⟨g, 7, none⟩ = some (.slice A n.kids.length c) := gall 7
    clear gall
    have hkW := hrW.kids hk
    have hnb := hrW.val hv
    have HRC := fun (w : World) (hr : Ro W W.heap.size w) => right_c hnb hr hs
    rw [HR.out] at HRC
    have HRC := Lib.hid HRC
    have hrs := Ro.self W
    have heW := heW W hrW
    go_wp2_with fail
    refine (HRC.out _ hrs).mono ?_
    rintro e w1 ⟨rfl, hr1⟩
    have k7 : w1.cell? ⟨g, 7, none⟩ = some (.slice A n.kids.length c) := (hr1.cell ⟨g, 7, none⟩ gz).trans g7
    have gz1 := hr1.lt (a := ⟨g, 0, none⟩) gz
    have hk1 := hr1.kids hkW
    have he1 := heW.at_ hr1
    have hrE := hrW.trans_ hr1
    have hS := writer_new w1
    have hl := hk1.le
    have hl' := hk1.le'
    clear heW HRC hkW hnb hrs g0 g1 g2 g3 g4 g5 g6 g7 hr1 hrW gz hk hr hv he
    go_wp2_with fail
    generalize w1.alloc (.cells #[.pointer none, .slice none 0 0, .int .i64 0] 50) = W2 at hS ⊢
    replace gz1 : g < w1.heap.size := gz1
    have HRE : Hid (∀ w3, Ro w1 w1.heap.size w3 → Ro w0 B w3) := fun w3 h => hrE.trans_ h
    generalize w1.heap.size = G at HRE hS hk1 he1 gz1 ⊢
    go_loopw [6, 7, 8, 9, 20] (fun _ _ _ _ u wr => ∃ i : Nat, i ≤ n.kids.length ∧ u = .int .i64 i ∧ St w1 G G (some ((0 : Nat) : Int)) (partsS ((n.kids.map funcS).take i)) wr) (fun _ _ _ _ u _ => (n.kids.length - (intOf u).toNat : Nat))
    case atStart => exact ⟨0, by omega, rfl, by simpa [partsS] using hS⟩
    case round =>
      obtain ⟨i, hil, rfl, hst⟩ := hrel
      by_cases hlt : i < n.kids.length
      · obtain ⟨ad, rfl⟩ := hk1.some_ (by omega)
        have hn := kid_at hk1 hlt
        have hfz := n.size_kid (List.getElem_mem hlt)
        obtain ⟨f1, f2, f3⟩ := func_facts (HNZ.out _ (List.getElem_mem hlt))
        have hz := partsS_size (n.kids.map funcS) (i + 1)
        have hstep := partsS_take (n.kids.map funcS) i (by simpa using hlt)
        rw [List.getElem_map] at hstep
        rw [hstep] at hz
        replace hstep := Lib.hid hstep
        have HM : (partsS ((n.kids.map funcS).take i) ++ funcS n.kids[i]).size ≤ 140737488355328 := by omega
        clear hz
        generalize partsS ((n.kids.map funcS).take i) = J at hst hstep HM
        generalize n.kids[i] = f at hn hfz f1 f2 f3 hstep HM
        obtain ⟨A', c', hb, c0, c1, c2, c3, c7, hk'⟩ := hn.open_
        obtain ⟨ad2, rfl⟩ := hk'.some_ (by omega)
        obtain ⟨q, hq'⟩ : ∃ q, f.kids.length = q + 1 := ⟨f.kids.length - 1, by omega⟩
        have hq1 : q < f.kids.length := by omega
        have hbk : blockB f.kids[q] = true := by
          rw [lastB_eq, List.getLast?_eq_getElem?, hq'] at f3
          simpa [hq1] using f3
        have hbz := f.size_kid (List.getElem_mem hq1)
        have HB := wblock_all (g := G) (k := 0) he1 (hk'.at_ ad2 rfl q hq1) hbk (by omega)
        have EF : funcS f = str [102, 117, 110, 99, 32] ++ f.text ++ str [40] ++ joinS ((f.kids.take q).map paramS) ++ str [41, 32] ++ (if f.type.toList.isEmpty then .empty else f.type ++ str [32]) ++ blockS f.kids[q] 0 ++ str [10] := by
          have e : f.kids.length - 1 = q := by omega
          simp only [funcS, List.dropLast_eq_take, e]
          simp [strAt, hq1]
        generalize f.kids[q] = fb at HB EF
        rw [EF] at hstep HM
        have hl2 := hk'.le
        have hl2' := hk'.le'
        have hq2 : q + 1 ≤ c' := by omega
        have hq3 : q < c' := by omega
        have hq5 : q ≤ 1048576 := by omega
        have hcq := hst.ro.cell
        have hz := hst.ro.lt hb
        rw [hq'] at c7
        have HLP : ((f.kids.take q).map paramS).length = q := by rw [List.length_map, List.length_take]; omega
        have HPJ : ∀ j, j < q → ∃ k, f.kids[j]? = some k ∧ ((f.kids.take q).map paramS)[j]? = some (paramS k) := fun j hj => by
          have : j < f.kids.length := by omega
          refine ⟨f.kids[j], List.getElem?_eq_getElem this, ?_⟩
          rw [List.getElem?_map, List.getElem?_take, if_pos hj, List.getElem?_eq_getElem this]
          rfl
        have HKJ : ∀ j, j < q → ∀ k, f.kids[j]? = some k → NodeAt w1 G (ad2.add (j * 8)) k := fun j hj k hk => by
          have : j < f.kids.length := by omega
          have e := List.getElem?_eq_getElem this
          rw [hk] at e
          injection e with e
          rw [e]
          exact hk'.at_ ad2 rfl j this
        replace HPJ := Lib.hid HPJ
        replace HKJ := Lib.hid HKJ
        generalize (f.kids.take q).map paramS = P at HLP HPJ hstep HM EF
        replace HLP := Lib.hid HLP
        replace EF := Lib.hid EF
        have HQ := Lib.hid hq'
        clear hq' hn hk' f1 f2 f3 hbk hbz hfz hl2 hq1
        go_wp2_with (go_at_call 27; (with_reducible refine (add3_c hst _ _ _ ?hm).mono ?_); (case hm => ((try simp only [ByteArray.size_append] at HM ⊢); (try simp only [ByteArray.size, str, List.size_toArray, List.length_cons, List.length_nil] at HM ⊢); omega)); rintro e wa ⟨rfl, ha, hfa⟩)
        go_loopw [9, 41] (fun _ u wr2 => ∃ j : Nat, j ≤ q ∧ u = .int .i64 j ∧ St w1 G G (some ((0 : Nat) : Int)) (J ++ str [102, 117, 110, 99, 32] ++ f.text ++ str [40] ++ joinS (P.take j)) wr2) (fun _ u _ => (q - (intOf u).toNat : Nat))
        case atStart => exact ⟨0, by omega, rfl, by simpa [joinS, str] using ha⟩
        case round =>
          obtain ⟨j, hjl, rfl, hst2⟩ := hrel
          clear ha hst hcq
          by_cases hjt : j < q
          · obtain ⟨kj, hkj, hpj⟩ := HPJ.out j hjt
            have hnj := HKJ.out j hjt kj hkj
            clear hkj
            have hjP : j < P.length := by rw [HLP.out]; exact hjt
            have hjs := joinS_step P j hjP
            have hjz := joinS_take_le P (j + 1)
            rw [List.getElem?_eq_getElem hjP] at hpj
            injection hpj with hpj
            rw [hpj, paramS] at hjs
            clear hpj
            obtain ⟨A4, c4', xb, x0, x1, x2, x3, x7, _⟩ := hnj.open_
            clear hnj
            have hc2 := hst2.ro.cell
            have hz2 := hst2.ro.lt hb
            have hz3 := hst2.ro.lt xb
            have hj1 : j < q + 1 := by omega
            have hj2 : (0 : Int) ≤ j := by omega
            have hj3 : (j : Int) < (q : Int) + 1 := by omega
            have HM2 := HM
            by_cases hj0 : j = 0
            · subst hj0
              simp only [Nat.zero_mul, add_zero_] at x1 x3 xb
              rw [if_pos rfl] at hjs
              rw [hjs] at hjz
              have HM : (J ++ str [102, 117, 110, 99, 32] ++ f.text ++ str [40]).size + (kj.text.size + 1 + kj.type.size) ≤ 140737488355328 := by
                simp only [ByteArray.size_append, str_size, List.length_cons, List.length_nil] at HM2 hjz ⊢
                omega
              replace hjs := Lib.hid hjs
              have hst3 : St w1 G G (some ((0 : Nat) : Int)) (J ++ str [102, 117, 110, 99, 32] ++ f.text ++ str [40]) wr := by simpa [joinS] using hst2
              clear hjz HM2 hst2
              go_wp2_with fail
              go_region_with ((go_at_call 27; (with_reducible refine (add3d_c hst3 _ _ _ ?hm).mono ?_); (case hm => (show _ + (_ + 1 + _) ≤ _; exact HM)); rintro e w2 ⟨rfl, h2, hf2⟩))
              all_goals go_wp2_with fail
              all_goals exact ⟨⟨1, by omega, by go_num, by (have e := hjs.out; simp only [Nat.zero_add] at e; rw [e]; simpa only [ByteArray.append_assoc, str] using h2)⟩, by simp [intOf]; omega⟩
            · rw [if_neg hj0] at hjs
              rw [hjs] at hjz
              have HM : (J ++ str [102, 117, 110, 99, 32] ++ f.text ++ str [40] ++ joinS (P.take j)).size + 2 + (kj.text.size + 1 + kj.type.size) ≤ 140737488355328 := by
                simp only [ByteArray.size_append, str_size, List.length_cons, List.length_nil] at HM2 hjz ⊢
                omega
              replace hjs := Lib.hid hjs
              have hkp : decide ((0 : Int) < (j : Int)) = true := by simp; omega
              clear hjz HM2
              generalize joinS (P.take j) = JJ at hst2 hjs HM
              go_wp2_with (go_at_call 27; (with_reducible refine (add1_c hst2 _ ?hm).mono ?_); (case hm => (show _ + 2 ≤ _; omega)); rintro e w3 ⟨rfl, h3, hf3⟩; have hc3 := h3.ro.cell)
              go_region_with ((go_at_call 27; (with_reducible refine (add3d_c h3 _ _ _ ?hm).mono ?_); (case hm => (rw [ByteArray.size_append]; (show _ + 2 + (_ + 1 + _) ≤ _); omega)); rintro e w2 ⟨rfl, h2, hf2⟩))
              all_goals go_wp2_with fail
              all_goals exact ⟨⟨j + 1, by omega, by go_num, by rw [hjs.out]; simpa only [ByteArray.append_assoc, str] using h2⟩, by simp [intOf]; omega⟩
          · have hj : j = P.length := by rw [HLP.out]; omega
            subst hj
            rw [List.take_length] at hst2
            have hc2 := hst2.ro.cell
            have hz2 := hst2.ro.lt hb
            generalize joinS P = JJ at hst2 hstep HM
            have tj : (f.type.toList.isEmpty = true ∧ f.type.toList = []) ∨ f.type.toList.isEmpty = false := by
              cases q : f.type.toList <;> simp
            rcases tj with ⟨pj, pj2⟩ | pj
            · rw [if_pos pj] at hstep HM
              go_wp2_with (first
    | (go_at_call 27; (with_reducible refine (add1_c hst2 _ ?hm).mono ?_); (case hm => ((try simp only [ByteArray.size_append] at HM ⊢); (try simp only [ByteArray.size, str, List.size_toArray, List.length_cons, List.length_nil] at HM ⊢); omega)); rintro e w1 ⟨rfl, h1, hf1⟩; have hc1 := h1.ro.cell)
    | (go_at_call 28; (with_reducible refine (HB _ _ h1 ?hm).mono ?_); (case hm => ((try simp only [ByteArray.size_append] at HM ⊢); (try simp only [ByteArray.size, str, List.size_toArray, List.length_cons, List.length_nil] at HM ⊢); omega)); rintro e w2 ⟨rfl, h2, hf2⟩; have hc2 := h2.ro.cell)
    | (go_at_call 27; (with_reducible refine (add1_c h2 _ ?hm).mono ?_); (case hm => ((try simp only [ByteArray.size_append] at HM ⊢); (try simp only [ByteArray.size, str, List.size_toArray, List.length_cons, List.length_nil] at HM ⊢); omega)); rintro e w3 ⟨rfl, h3, hf3⟩; have hc3 := h3.ro.cell))
              exact ⟨⟨i + 1, by omega, by go_num, by rw [hstep.out]; simpa only [ByteArray.append_assoc, ByteArray.append_empty, ByteArray.empty_append, str] using h3⟩, by simp [intOf]; omega⟩
            · rw [if_neg (by simp [pj])] at hstep HM
              go_wp2_with (first
    | (go_at_call 27; (with_reducible refine (add1_c hst2 _ ?hm).mono ?_); (case hm => ((try simp only [ByteArray.size_append] at HM ⊢); (try simp only [ByteArray.size, str, List.size_toArray, List.length_cons, List.length_nil] at HM ⊢); omega)); rintro e w1 ⟨rfl, h1, hf1⟩; have hc1 := h1.ro.cell)
    | (go_at_call 27; (with_reducible refine (add2_c h1 _ _ ?hm).mono ?_); (case hm => ((try simp only [ByteArray.size_append] at HM ⊢); (try simp only [ByteArray.size, str, List.size_toArray, List.length_cons, List.length_nil] at HM ⊢); omega)); rintro e w2 ⟨rfl, h2, hf2⟩; have hc2 := h2.ro.cell)
    | (go_at_call 28; (with_reducible refine (HB _ _ h2 ?hm).mono ?_); (case hm => ((try simp only [ByteArray.size_append] at HM ⊢); (try simp only [ByteArray.size, str, List.size_toArray, List.length_cons, List.length_nil] at HM ⊢); omega)); rintro e w3 ⟨rfl, h3, hf3⟩; have hc3 := h3.ro.cell)
    | (go_at_call 27; (with_reducible refine (add1_c h3 _ ?hm).mono ?_); (case hm => ((try simp only [ByteArray.size_append] at HM ⊢); (try simp only [ByteArray.size, str, List.size_toArray, List.length_cons, List.length_nil] at HM ⊢); omega)); rintro e w4 ⟨rfl, h4, hf4⟩; have hc4 := h4.ro.cell))
              exact ⟨⟨i + 1, by omega, by go_num, by rw [hstep.out]; simpa only [ByteArray.append_assoc, str] using h4⟩, by simp [intOf]; omega⟩
      · have hi : i = (n.kids.map funcS).length := by simp; omega
        subst hi
        rw [List.take_length] at hst
        go_wp2_with (go_at_call 29; (with_reducible refine (string_c hst).mono ?_); rintro e w3 ⟨rfl, hr3⟩)
        go_ret2
        exact ⟨by rw [E.out]; rfl, HRE.out _ hr3⟩
end Go.Proofs.YtjdeomenioagdaaGreatDoor
