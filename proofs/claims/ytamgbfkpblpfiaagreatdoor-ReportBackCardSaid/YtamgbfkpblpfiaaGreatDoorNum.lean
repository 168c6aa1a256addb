/-
  Numbers of a text, walked: the program's.
-/
import Derived.Test.YtamgbfkpblpfiaaGreatDoorNumL
import Derived.Test.YtamgbfkpblpfiaaGreatDoorDecU
import Derived.WalkLawsBesides
import Derived.WalkSpells
import Derived.Lib.Strings
namespace Go.Proofs.YtamgbfkpblpfiaaGreatDoor
open Go.ChangeShapes Go.WideShapes Go.ChangeAt Go.RowKit
set_option linter.unusedVariables false
def NumPost (w : World) (o : Option Nat) (e : Ending) (w' : World) : Prop := e = .returned (.tuple #[.int .u64 ((ansU o).1 : Nat), .bool (ansU o).2]) ∧ Below w.heap.size w w'
theorem num_empty (w : World) : Calls Tryz.prog 83 #[.string ⟨#[]⟩] w (NumPost w none) := by
  go_enter Tryz.func83, Tryz.ntmps83
  go_wp2
  go_ret2
  exact ⟨rfl, Below.refl _ _⟩
theorem str_ne {s : ByteArray} (h : 0 < s.size) : s.toList.isEmpty = false ∧ ¬ s.toList = [] := by
  rw [Lib.toList_data]
  have : s.data.toList ≠ [] := fun e => by
    have h2 : s.data.toList.length = 0 := by rw [e]; rfl
    have : s.size = s.data.toList.length := by rw [Array.length_toList]; rfl
    omega
  exact ⟨by simpa using this, this⟩
theorem num_zero (s : ByteArray) (w : World) (h1 : 1 < s.size) (hs : s.size ≤ 100000) (h0 : s[0].toNat = 48) : Calls Tryz.prog 83 #[.string s] w (NumPost w none) := by
  obtain ⟨hne, hne'⟩ := str_ne (s := s) (by omega)
  have hz : ((s[0].toNat : Int) == 48) = true := by rw [h0]; rfl
  have h1' : decide ((1 : Int) < (s.size : Int)) = true := decide_eq_true (by omega)
  have h2' : (0 : Int) < (s.size : Int) := by omega
  clear h0
  go_enter Tryz.func83, Tryz.ntmps83
  go_wp2
  go_ret2
  exact ⟨rfl, Below.refl _ _⟩
/-- What stands before round k. -/
def NumRel (s : ByteArray) (k : Nat) (n : Int) : Prop := ∃ u : Nat, n = (u : Int) ∧ u ≤ 18446744073709551615 ∧ valU 0 (s.data.toList.take k) = some u
theorem take_snocB (s : ByteArray) (k : Nat) (h : k < s.size) : s.data.toList.take (k + 1) = s.data.toList.take k ++ [s[k]] := by
  rw [List.take_succ_eq_append_getElem (by simpa using h)]; rfl
theorem valU_none_app : ∀ (l m : List UInt8) (n : Nat), valU n l = none → valU n (l ++ m) = none
  | [], m, n, h => by simp [valU] at h
  | a :: l, m, n, h => by
    simp only [List.cons_append, valU] at h ⊢
    cases hs : stepU n a with
    | none => rfl
    | some k => rw [hs] at h; exact valU_none_app l m k h
theorem NumRel.bad {s : ByteArray} {k : Nat} {u : Nat} (h : valU 0 (s.data.toList.take k) = some u) (hk : k < s.size) (hs : stepU u s[k] = none) : valU 0 s.data.toList = none := by
  have e : s.data.toList = s.data.toList.take (k + 1) ++ s.data.toList.drop (k + 1) := (List.take_append_drop _ _).symm
  rw [e]
  refine valU_none_app _ _ _ ?_
  rw [take_snocB s k hk, valU_snoc, h]
  exact hs
theorem NumRel.next {s : ByteArray} {k : Nat} {u m : Nat} (h : valU 0 (s.data.toList.take k) = some u) (hk : k < s.size) (hs : stepU u s[k] = some m) : valU 0 (s.data.toList.take (k + 1)) = some m := by
  rw [take_snocB s k hk, valU_snoc, h]
  exact hs
theorem byte_row {w : World} (s : ByteArray) (cap : Nat) (fz : Nat × Nat) (k : Nat) (hk : k < s.size) : (w.alloc (.cells (bytesRow s cap) 5 fz)).cell? ⟨w.heap.size, k, none⟩ = some (.int .u8 (s[k].toNat : Int)) := by
  have hb : (w.alloc (.cells (bytesRow s cap) 5 fz)).heap[w.heap.size]? = some (.cells (bytesRow s cap) 5 fz) := heap_alloc_new w _
  rw [cell_of_row _ _ _ _ _ _ hb]
  have hk' : k < s.data.size := hk
  unfold bytesRow
  rw [Array.getElem?_append_left (by simpa using hk'), Array.getElem?_map, Array.getElem?_eq_getElem hk']
  rfl
def okU (u c : Nat) : Prop := 48 ≤ c ∧ c ≤ 57 ∧ (u : Int) * 10 + ((c : Int) - 48) ≤ 18446744073709551615
theorem stepU_yes {u : Nat} {c : UInt8} (h : okU u c.toNat) : stepU u c = some (u * 10 + (c.toNat - 48)) := by
  unfold okU at h
  unfold stepU
  rw [if_pos (by omega)]
theorem stepU_no {u : Nat} {c : UInt8} (h : ¬ okU u c.toNat) : stepU u c = none := by
  unfold okU at h
  unfold stepU
  rw [if_neg (by omega)]
theorem ansU_none : ansU none = (0, false) := rfl
theorem post_none {w w' : World} (hb : Below w.heap.size w w') {o : Option Nat} (ho : o = none) : NumPost w o (.returned (.tuple #[.int .u64 0, .bool false])) w' := ⟨by rw [ho]; rfl, hb⟩
theorem post_some {w w' : World} (hb : Below w.heap.size w w') {o : Option Nat} {u : Nat} (ho : o = some u) : NumPost w o (.returned (.tuple #[.int .u64 u, .bool true])) w' := ⟨by rw [ho]; rfl, hb⟩
set_option maxHeartbeats 2000000 in
theorem num_loop (s : ByteArray) (w : World) (h1 : 0 < s.size) (hs : s.size ≤ 100000) (h0 : ¬ (1 < s.size ∧ s[0].toNat = 48)) : Calls Tryz.prog 83 #[.string s] w (NumPost w (valU 0 s.data.toList)) := by
  obtain ⟨hne, hne'⟩ := str_ne (s := s) (by omega)
  have hcv := fun w s => run_bytes_of_string (P := Tryz.prog) w 9 66 5 s Tryz.underlying9 Tryz.underlying66 Tryz.underlying5
  have h2' : (0 : Int) < (s.size : Int) := by omega
  have HRW := Lib.hid (fun fz k hk => byte_row (w := w) s (grownCap w s.size 0 5) fz k hk)
  have hz : 1 < s.size → ((s[0].toNat : Int) == 48) = false := fun h => by
    have : ¬ s[0].toNat = 48 := fun e => h0 ⟨h, e⟩
    rw [beq_eq_false_iff_ne]; omega
  clear h0
  by_cases hl : 1 < s.size
  focus
    have hl' : decide ((1 : Int) < (s.size : Int)) = true := decide_eq_true (by omega)
    have hz := hz hl
    go_enter Tryz.func83, Tryz.ntmps83
    go_wp2
  rotate_left
  focus
    have hl' : decide ((1 : Int) < (s.size : Int)) = false := decide_eq_false (by omega)
    clear hz
    have hz : True := trivial
    go_enter Tryz.func83, Tryz.ntmps83
    go_wp2
  all_goals
    go_loopw [2, 22] (fun n i wr => ∃ k : Nat, k ≤ s.size ∧ i = .int .i64 k ∧ (∃ u : Nat, n = .int .u64 u ∧ (u : Int) ≤ 18446744073709551615 ∧ valU 0 (s.data.toList.take k) = some u) ∧ wr = (w.alloc (.cells (bytesRow s (grownCap w s.size 0 5)) 5 ((bytesRow s (grownCap w s.size 0 5)).size, (bytesRow s (grownCap w s.size 0 5)).size + 1))).drew) (fun _ i _ => s.size - (intOf i).toNat)
    case atStart => exact ⟨0, Nat.zero_le _, rfl, ⟨0, rfl, by omega, rfl⟩, rfl⟩
    case round =>
      clear hcv hz hl'
      obtain ⟨k, hk, rfl, ⟨u, rfl, hu, hv⟩, rfl⟩ := hrel
      have HB : Hid (Below w.heap.size w (w.alloc (.cells (bytesRow s (grownCap w s.size 0 5)) 5 ((bytesRow s (grownCap w s.size 0 5)).size, (bytesRow s (grownCap w s.size 0 5)).size + 1))).drew) := Lib.hid (((Below.refl _ _).alloc (Nat.le_refl _) _).drew)
      by_cases hlt : (k : Int) < (s.size : Int)
      · have hlt' : k < s.size := by omega
        have q := HRW.out ((bytesRow s (grownCap w s.size 0 5)).size, (bytesRow s (grownCap w s.size 0 5)).size + 1) k hlt'
        have HY := Lib.hid (fun h : okU u s[k].toNat => NumRel.next hv hlt' (stepU_yes h))
        have HN := Lib.hid (fun h : ¬ okU u s[k].toNat => NumRel.bad hv hlt' (stepU_no h))
        have h255 : s[k].toNat < 256 := s[k].toNat_lt
        generalize s[k].toNat = c at *
        generalize hW : (bytesRow s (grownCap w s.size 0 5)) = R at *
        clear hv hW
        by_cases hok : okU u c
        · have HY := Lib.hid (HY.out hok)
          obtain ⟨o1, o2, o3⟩ := hok
          have c1 : decide ((c : Int) < 48) = false := decide_eq_false (by omega)
          have c2 : decide ((57 : Int) < (c : Int)) = false := decide_eq_false (by omega)
          have c3 : decide ((1844674407370955161 : Int) < (u : Int)) = false := decide_eq_false (by omega)
          go_wp2
          go_roundw
          case rel => exact ⟨k + 1, by omega, by go_num, ⟨u * 10 + (c - 48), by go_num, by omega, HY.out⟩, trivial⟩
          case measure => simp [intOf]; omega
        · have HN := Lib.hid (HN.out hok)
          by_cases o1 : c < 48
          · have c1 : decide ((c : Int) < 48) = true := decide_eq_true (by omega)
            go_wp2
            go_ret2
            exact post_none HB.out HN.out
          by_cases o2 : 57 < c
          · have c1 : decide ((c : Int) < 48) = false := decide_eq_false (by omega)
            have c2 : decide ((57 : Int) < (c : Int)) = true := decide_eq_true (by omega)
            go_wp2
            go_ret2
            exact post_none HB.out HN.out
          have o3 : 18446744073709551615 < (u : Int) * 10 + ((c : Int) - 48) := by unfold okU at hok; omega
          have c1 : decide ((c : Int) < 48) = false := decide_eq_false (by omega)
          have c2 : decide ((57 : Int) < (c : Int)) = false := decide_eq_false (by omega)
          by_cases o4 : (1844674407370955161 : Int) < (u : Int)
          · have c3 : decide ((1844674407370955161 : Int) < (u : Int)) = true := decide_eq_true o4
            go_wp2
            go_ret2
            exact post_none HB.out HN.out
          · have c3 : decide ((1844674407370955161 : Int) < (u : Int)) = false := decide_eq_false o4
            go_wp2
            all_goals first
              | (exfalso; omega)
              | (go_ret2; exact post_none HB.out HN.out)
      · have hks : k = s.size := by omega
        have HV : Hid (valU 0 s.data.toList = some u) := Lib.hid (by rw [← hv, hks, List.take_of_length_le (by rw [Array.length_toList]; exact Nat.le_refl _)])
        clear hv hks
        go_wp2
        go_ret2
        exact post_some HB.out HV.out
theorem getD0 (s : ByteArray) (h : 0 < s.size) : (s.data.toList.getD 0 0).toNat = s[0].toNat := by
  have : 0 < s.data.toList.length := by rw [Array.length_toList]; exact h
  rw [List.getD_eq_getElem?_getD, List.getElem?_eq_getElem this]
  rfl
theorem number_of (s : ByteArray) (w : World) (hs : s.size ≤ 100000) : Calls Tryz.prog 83 #[.string s] w (NumPost w (numU s.data.toList)) := by
  have hlen : s.data.toList.length = s.size := by rw [Array.length_toList]; rfl
  by_cases h0 : s.size = 0
  · have e : s = ⟨#[]⟩ := by
      obtain ⟨d⟩ := s
      have : d = #[] := Array.eq_empty_of_size_eq_zero h0
      rw [this]
    rw [e]
    exact num_empty w
  · have hg := getD0 s (by omega)
    have hne : s.data.toList ≠ [] := fun e => by rw [e] at hlen; simp at hlen; omega
    unfold numU
    by_cases hz : 1 < s.size ∧ s[0].toNat = 48
    · rw [if_pos (.inr ⟨by omega, UInt8.toNat.inj (by rw [hg, hz.2]; rfl)⟩)]
      exact num_zero s w hz.1 hs hz.2
    · rw [if_neg]
      · exact num_loop s w (by omega) hs hz
      · rintro (h | ⟨h1, h2⟩)
        · exact hne h
        · exact hz ⟨by omega, by rw [← hg, h2]; rfl⟩
end Go.Proofs.YtamgbfkpblpfiaaGreatDoor
/-
  Numbers of a text, walked: the document's.
-/
namespace Go.Proofs.YtamgbfkpblpfiaaGreatDoor
open Go.ChangeShapes Go.WideShapes Go.ChangeAt Go.RowKit
set_option linter.unusedVariables false
theorem r15_num_len (s : ByteArray) (w : World) (h : s.size = 0 ∨ 20 < s.size) (hs : s.size ≤ 100000) : Calls Tryz.prog 94 #[.string s] w (NumPost w none) := by
  by_cases h0 : s.size = 0
  · have c1 : ((s.size : Int) == 0) = true := by rw [h0]; rfl
    go_enter Tryz.func94, Tryz.ntmps94
    go_wp2
    all_goals (go_ret2; exact ⟨rfl, Below.refl _ _⟩)
  · have c1 : ((s.size : Int) == 0) = false := by rw [beq_eq_false_iff_ne]; omega
    have c2 : decide ((20 : Int) < (s.size : Int)) = true := decide_eq_true (by omega)
    clear h h0
    go_enter Tryz.func94, Tryz.ntmps94
    go_wp2
    all_goals (go_ret2; exact ⟨rfl, Below.refl _ _⟩)
set_option maxHeartbeats 2000000 in
theorem r15_num_loop (s : ByteArray) (w : World) (h1 : 0 < s.size) (hs : s.size ≤ 20) (o : Option Nat) (ho : o = match valU 0 s.data.toList with | some n => if Lib.decDigits n = s.data.toList then some n else none | none => none) : Calls Tryz.prog 94 #[.string s] w (NumPost w o) := by
  have HO := Lib.hid ho
  clear ho
  have c1 : ((s.size : Int) == 0) = false := by rw [beq_eq_false_iff_ne]; omega
  have c2 : decide ((20 : Int) < (s.size : Int)) = false := decide_eq_false (by omega)
  go_enter Tryz.func94, Tryz.ntmps94
  go_wp2
  go_loopw [4, 5] (fun n i wr => ∃ k : Nat, k ≤ s.size ∧ i = .int .i64 k ∧ (∃ u : Nat, n = .int .u64 u ∧ (u : Int) ≤ 18446744073709551615 ∧ valU 0 (s.data.toList.take k) = some u) ∧ wr = w) (fun _ i _ => s.size - (intOf i).toNat)
  case atStart => exact ⟨0, Nat.zero_le _, rfl, ⟨0, rfl, by omega, rfl⟩, rfl⟩
  case round =>
    clear c1 c2
    obtain ⟨k, hk, rfl, ⟨u, rfl, hu, hv⟩, rfl⟩ := hrel
    by_cases hlt : (k : Int) < (s.size : Int)
    · have hlt' : k < s.size := by omega
      have HY := Lib.hid (fun h : okU u s[k].toNat => NumRel.next hv hlt' (stepU_yes h))
      have HN := Lib.hid (fun h : ¬ okU u s[k].toNat => NumRel.bad hv hlt' (stepU_no h))
      have h255 : s[k].toNat < 256 := s[k].toNat_lt
      obtain ⟨c, hc⟩ : ∃ c, c = s[k].toNat := ⟨_, rfl⟩
      rw [← hc] at HY HN h255
      clear hv
      by_cases hok : okU u c
      · have HY := Lib.hid (HY.out hok)
        clear HN
        obtain ⟨o1, o2, o3⟩ := hok
        rw [hc] at o1 o2 o3
        have c1 : decide ((s[k].toNat : Int) < 48) = false := decide_eq_false (by omega)
        have c2 : decide ((57 : Int) < (s[k].toNat : Int)) = false := decide_eq_false (by omega)
        have HC := Lib.hid hc
        clear hc
        go_wp2
        go_roundw
        case rel => exact ⟨k + 1, by omega, by go_num, ⟨u * 10 + (c - 48), by rw [HC.out]; go_num, by have := HC.out; omega, HY.out⟩, trivial⟩
        case measure => simp [intOf]; omega
      · have HN : Hid (o = none) := Lib.hid (by rw [HO.out, HN.out hok])
        by_cases o1 : c < 48
        · have c1 : decide ((s[k].toNat : Int) < 48) = true := decide_eq_true (by omega)
          clear HY hc
          go_wp2
          go_ret2
          exact post_none (Below.refl _ _) HN.out
        by_cases o2 : 57 < c
        · have c1 : decide ((s[k].toNat : Int) < 48) = false := decide_eq_false (by omega)
          have c2 : decide ((57 : Int) < (s[k].toNat : Int)) = true := decide_eq_true (by omega)
          clear HY hc
          go_wp2
          go_ret2
          exact post_none (Below.refl _ _) HN.out
        have o3 : 18446744073709551615 < (u : Int) * 10 + ((s[k].toNat : Int) - 48) := by unfold okU at hok; omega
        have c1 : decide ((s[k].toNat : Int) < 48) = false := decide_eq_false (by omega)
        have c2 : decide ((57 : Int) < (s[k].toNat : Int)) = false := decide_eq_false (by omega)
        rw [hc] at o1 o2
        clear HY hc hok
        go_wp2
        all_goals first
          | (exfalso; omega)
          | (go_ret2; exact post_none (Below.refl _ _) HN.out)
    · have hks : k = s.size := by omega
      have hv' : valU 0 s.data.toList = some u := by rw [← hv, hks, List.take_of_length_le (by rw [Array.length_toList]; exact Nat.le_refl _)]
      have HD := Lib.hid (dec_ u (by omega) wr)
      have ho := HO.out
      rw [hv'] at ho
      simp only at ho
      have hbs : s = bs s.data.toList := by obtain ⟨⟨l⟩⟩ := s; rfl
      by_cases he : Lib.decDigits u = s.data.toList
      · rw [if_pos he] at ho
        rw [he, ← hbs] at HD
        have HO2 := Lib.hid ho
        clear hv hks hv' ho hbs he HO
        go_wp2_with fail
        refine HD.out.mono ?_
        rintro e w1 ⟨rfl, hb⟩
        go_wp2
        go_ret2
        exact post_some hb HO2.out
      · rw [if_neg he] at ho
        obtain ⟨t, ht⟩ : ∃ t, t = bs (Lib.decDigits u) := ⟨_, rfl⟩
        have hts : (!(t.toList == s.toList)) = true := by
          rw [Lib.toList_data, Lib.toList_data]
          have : t.data.toList = Lib.decDigits u := by rw [ht]; simp [bs]
          rw [this]
          simpa using he
        rw [← ht] at HD
        have HO2 := Lib.hid ho
        clear hv hks hv' ho hbs he HO ht
        go_wp2_with fail
        refine HD.out.mono ?_
        rintro e w1 ⟨rfl, hb⟩
        go_wp2
        go_ret2
        exact post_none hb HO2.out
theorem r15_number (s : ByteArray) (w : World) (hs : s.size ≤ 100000) : Calls Tryz.prog 94 #[.string s] w (NumPost w (numU s.data.toList)) := by
  rw [numU_eq_numR]
  have hlen : s.data.toList.length = s.size := by rw [Array.length_toList]; rfl
  unfold numR
  by_cases h0 : s.size = 0 ∨ 20 < s.size
  · rw [if_pos (h0.elim (fun h => .inl (List.eq_nil_of_length_eq_zero (by omega))) (fun h => .inr (by omega)))]
    exact r15_num_len s w h0 hs
  · rw [if_neg (fun h => h.elim (fun e => h0 (.inl (by rw [← hlen, e]; rfl))) (fun e => h0 (.inr (by omega))))]
    exact r15_num_loop s w (by omega) (by omega) _ rfl
end Go.Proofs.YtamgbfkpblpfiaaGreatDoor
