/-
  Numbers of a text, walked: the document's.
-/
import Derived.Test.YtibinmabdidecaaGreatDoorNum
namespace Go.Proofs.YtibinmabdidecaaGreatDoor
open Go.ChangeShapes Go.WideShapes Go.ChangeAt Go.RowKit
set_option linter.unusedVariables false
theorem r15_num_len (s : ByteArray) (w : World) (h : s.size = 0 ∨ 20 < s.size) (hs : s.size ≤ 100000) : Calls Tryz.prog 48 #[.string s] w (NumPost w none) := by
  by_cases h0 : s.size = 0
  · have c1 : ((s.size : Int) == 0) = true := by rw [h0]; rfl
    go_enter Tryz.func48, Tryz.ntmps48
    go_wp2
    all_goals (go_ret2; exact ⟨rfl, Below.refl _ _⟩)
  · have c1 : ((s.size : Int) == 0) = false := by rw [beq_eq_false_iff_ne]; omega
    have c2 : decide ((20 : Int) < (s.size : Int)) = true := decide_eq_true (by omega)
    clear h h0
    go_enter Tryz.func48, Tryz.ntmps48
    go_wp2
    all_goals (go_ret2; exact ⟨rfl, Below.refl _ _⟩)
set_option maxHeartbeats 2000000 in
theorem r15_num_loop (s : ByteArray) (w : World) (h1 : 0 < s.size) (hs : s.size ≤ 20) (o : Option Nat) (ho : o = match valU 0 s.data.toList with | some n => if Lib.decDigits n = s.data.toList then some n else none | none => none) : Calls Tryz.prog 48 #[.string s] w (NumPost w o) := by
  have HO := Lib.hid ho
  clear ho
  have c1 : ((s.size : Int) == 0) = false := by rw [beq_eq_false_iff_ne]; omega
  have c2 : decide ((20 : Int) < (s.size : Int)) = false := decide_eq_false (by omega)
  go_enter Tryz.func48, Tryz.ntmps48
  go_wp2
  go_loopw [4, 5] (fun n i wr => ∃ k : Nat, k ≤ s.size ∧ i = .int .i64 k ∧ (∃ u : Nat, n = .int .u64 u ∧ (u : Int) ≤ 18446744073709551615 ∧ valU 0 (s.data.toList.take k) = some u) ∧ wr = w) (fun _ i _ => s.size - (intOf i).toNat)
  case atStart => exact ⟨0, Nat.zero_le _, rfl, ⟨0, rfl, by omega, rfl⟩, rfl⟩
  case round =>
    clear c1 c2
    obtain ⟨k, hk, rfl, ⟨u, rfl, hu, hv⟩, rfl⟩ := hrel
    by_cases hlt : (k : Int) < (s.size : Int)
    · have hlt' : k < s.size := by omega
      have HY := Lib.hid (fun h : okU u s[k].toNat => NumRel.next hv hlt' (stepU_yes h))
      have HN := Lib.hid (fun h : ¬ okU u s[k].toNat => NumRel.bad hv hlt' (stepU_no h))
      have h255 : s[k].toNat < 256 := s[k].toNat_lt
      obtain ⟨c, hc⟩ : ∃ c, c = s[k].toNat := ⟨_, rfl⟩
      rw [← hc] at HY HN h255
      clear hv
      by_cases hok : okU u c
      · have HY := Lib.hid (HY.out hok)
        clear HN
        obtain ⟨o1, o2, o3⟩ := hok
        rw [hc] at o1 o2 o3
        have c1 : decide ((s[k].toNat : Int) < 48) = false := decide_eq_false (by omega)
        have c2 : decide ((57 : Int) < (s[k].toNat : Int)) = false := decide_eq_false (by omega)
        have HC := Lib.hid hc
        clear hc
        go_wp2
        go_roundw
        case rel => exact ⟨k + 1, by omega, by go_num, ⟨u * 10 + (c - 48), by rw [HC.out]; go_num, by have := HC.out; omega, HY.out⟩, trivial⟩
        case measure => simp [intOf]; omega
      · have HN : Hid (o = none) := Lib.hid (by rw [HO.out, HN.out hok])
        by_cases o1 : c < 48
        · have c1 : decide ((s[k].toNat : Int) < 48) = true := decide_eq_true (by omega)
          clear HY hc
          go_wp2
          go_ret2
          exact post_none (Below.refl _ _) HN.out
        by_cases o2 : 57 < c
        · have c1 : decide ((s[k].toNat : Int) < 48) = false := decide_eq_false (by omega)
          have c2 : decide ((57 : Int) < (s[k].toNat : Int)) = true := decide_eq_true (by omega)
          clear HY hc
          go_wp2
          go_ret2
          exact post_none (Below.refl _ _) HN.out
        have o3 : 18446744073709551615 < (u : Int) * 10 + ((s[k].toNat : Int) - 48) := by unfold okU at hok; omega
        have c1 : decide ((s[k].toNat : Int) < 48) = false := decide_eq_false (by omega)
        have c2 : decide ((57 : Int) < (s[k].toNat : Int)) = false := decide_eq_false (by omega)
        rw [hc] at o1 o2
        clear HY hc hok
        go_wp2
        all_goals first
          | (exfalso; omega)
          | (go_ret2; exact post_none (Below.refl _ _) HN.out)
    · have hks : k = s.size := by omega
      have hv' : valU 0 s.data.toList = some u := by rw [← hv, hks, List.take_of_length_le (by rw [Array.length_toList]; exact Nat.le_refl _)]
      have HD := Lib.hid (dec_ u (by omega) wr)
      have ho := HO.out
      rw [hv'] at ho
      simp only at ho
      have hbs : s = bs s.data.toList := by obtain ⟨⟨l⟩⟩ := s; rfl
      by_cases he : Lib.decDigits u = s.data.toList
      · rw [if_pos he] at ho
        rw [he, ← hbs] at HD
        have HO2 := Lib.hid ho
        clear hv hks hv' ho hbs he HO
        go_wp2_with fail
        refine HD.out.mono ?_
        rintro e w1 ⟨rfl, hb⟩
        go_wp2
        go_ret2
        exact post_some hb HO2.out
      · rw [if_neg he] at ho
        obtain ⟨t, ht⟩ : ∃ t, t = bs (Lib.decDigits u) := ⟨_, rfl⟩
        have hts : (!(t.toList == s.toList)) = true := by
          rw [Lib.toList_data, Lib.toList_data]
          have : t.data.toList = Lib.decDigits u := by rw [ht]; simp [bs]
          rw [this]
          simpa using he
        rw [← ht] at HD
        have HO2 := Lib.hid ho
        clear hv hks hv' ho hbs he HO ht
        go_wp2_with fail
        refine HD.out.mono ?_
        rintro e w1 ⟨rfl, hb⟩
        go_wp2
        go_ret2
        exact post_none hb HO2.out
theorem r15_number (s : ByteArray) (w : World) (hs : s.size ≤ 100000) : Calls Tryz.prog 48 #[.string s] w (NumPost w (numU s.data.toList)) := by
  rw [numU_eq_numR]
  have hlen : s.data.toList.length = s.size := by rw [Array.length_toList]; rfl
  unfold numR
  by_cases h0 : s.size = 0 ∨ 20 < s.size
  · rw [if_pos (h0.elim (fun h => .inl (List.eq_nil_of_length_eq_zero (by omega))) (fun h => .inr (by omega)))]
    exact r15_num_len s w h0 hs
  · rw [if_neg (fun h => h.elim (fun e => h0 (.inl (by rw [← hlen, e]; rfl))) (fun e => h0 (.inr (by omega))))]
    exact r15_num_loop s w (by omega) (by omega) _ rfl
end Go.Proofs.YtibinmabdidecaaGreatDoor
