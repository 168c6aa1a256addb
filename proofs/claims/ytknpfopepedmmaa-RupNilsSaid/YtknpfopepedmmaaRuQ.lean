/-
  Package rup: a clause looked at, walked.
-/
import Derived.Test.YtknpfopepedmmaaRuP
namespace Go.Proofs.Ytknpfopepedmmaa
open Go Go.ChangeShapes Go.WideShapes Go.ChangeAt Go.RowKit Go.Maps
set_option linter.unusedVariables false
set_option linter.unusedSimpArgs false
def lookG (T : List Int) : List Int → Int → Bool × Int
  | [], t => (decide (t = 0), t)
  | x :: r, t => if valR x T = 1 then (false, 0) else if valR x T = 0 then (if t ≠ 0 then (false, 0) else lookG T r x) else lookG T r t
theorem lookG_some (T : List Int) : ∀ (r : List Int) (t : Int), t ≠ 0 → t ∉ r → lookG T r t = (false, telG T r t)
  | [], t, h, _ => by unfold lookG telG; simp [h]
  | x :: r, t, h, hn => by
    have hx : t ≠ x := fun e => hn (by rw [e]; exact List.mem_cons_self)
    have hr : t ∉ r := fun e => hn (List.mem_cons_of_mem _ e)
    unfold lookG telG
    by_cases h1 : valR x T = 1
    · rw [if_pos h1, if_pos h1]
    · rw [if_neg h1, if_neg h1]
      by_cases h0 : valR x T = 0
      · rw [if_pos h0, if_pos h0, if_pos h, if_pos ⟨h, hx⟩]
      · rw [if_neg h0, if_neg h0]
        exact lookG_some T r t h hr
theorem lookG_zero (T : List Int) : ∀ (r : List Int), (∀ y ∈ r, y ≠ 0) → r.Nodup → lookG T r 0 = (falR r T, telG T r 0)
  | [], _, _ => by unfold lookG telG falR; simp
  | x :: r, h0, hn => by
    have hx0 := h0 x List.mem_cons_self
    rw [List.nodup_cons] at hn
    have ih := lookG_zero T r (fun y hy => h0 y (List.mem_cons_of_mem _ hy)) hn.2
    unfold lookG telG falR
    rw [List.all_cons]
    rcases valR_cases x T with e | e | e
    · rw [if_pos e, if_pos e, e]; rfl
    · rw [if_neg (by omega), if_pos e, if_neg (by omega), if_neg (by omega), if_pos e, if_neg (by omega), lookG_some T r x hx0 hn.1, e]; rfl
    · rw [if_neg (by omega), if_neg (by omega), if_neg (by omega), if_neg (by omega), ih, e]
      unfold falR
      simp
theorem look_eq {c T : List Int} (h0 : Lit30s c) (hn : c.Nodup) : lookG T c 0 = (falR c T, telR c T) := lookG_zero T c (fun y hy => (h0 y hy).1) hn
section
variable {w : World} {r : Nat} {S : RS} {vl vt : Value} {bt bo bm nt no nm : Nat} {us : List Value} {ho : Int → Option (Option (Nat × Nat × Nat))}
theorem KP.below (h : KP w r S vl vt bt bo bm nt no nm us ho) {w' : World} (hb : Below w.heap.size w w') : KP w' r S vl vt bt bo bm nt no nm us ho := by
  have hc : Chg (fun _ => False) w w' := Chg.of_below hb
  exact ⟨h.b.chg hc (fun e => e), h.l.chg hc (fun _ _ e => e), h.c.below hb, h.t.chg hc (fun e => e), h.o.chg hc (fun e => e), fun x => (h.of x).chg hc (fun _ _ e => e), h.m.chg hc (fun e => e), h.tr.chg hc (fun _ _ e => e), h.d, h.sl, h.st, h.sh, h.sx⟩
set_option maxHeartbeats 2000000 in
set_option maxRecDepth 100000 in
theorem look_ (h : KP w r S vl vt bt bo bm nt no nm us ho) (hc : Con S.T) {u : Value} {c : List Int} (hu : Ints w u c) (hl : Lit30s c) (hn : c.Nodup) :
    Calls Try.prog 67 #[kp r, u] w fun e w' => e = .returned (.tuple #[.bool (falR c S.T), .int .i64 (telR c S.T)]) ∧ Below w.heap.size w w' := by
  obtain ⟨a, cap, hv, -, h1, h2, hcell⟩ := hu
  subst hv
  have HE := Lib.hid (look_eq (T := S.T) hl hn)
  obtain ⟨wr0, hwr⟩ : ∃ R, R = (falR c S.T, telR c S.T) := ⟨_, rfl⟩
  rw [← hwr] at HE
  have e1 : falR c S.T = wr0.1 := by rw [hwr]
  have e2 : telR c S.T = wr0.2 := by rw [hwr]
  rw [e1, e2]
  obtain ⟨m, hm⟩ : ∃ m, m = c.length := ⟨_, rfl⟩
  rw [← hm] at h1 ⊢
  have hm9 : m ≤ 9223372036854775807 := Nat.le_trans h1 h2
  have HV : Hid (∀ W x, Below w.heap.size w W → x ∈ c → Calls Try.prog 49 #[kp r, .int .i64 x] W fun e w' => e = .returned (.int .i64 (valR x S.T)) ∧ Below W.heap.size W w') := Lib.hid fun W x hW hx => value_ (h.below hW) hc (hl x hx)
  have HC := Lib.hid hcell
  have HM := Lib.hid hm
  clear h hc hl hn hwr e1 e2 hm h1 h2 hcell
  go_enter Try.func67, Try.ntmps67
  go_wp2
  go_loopw [5, 10] (fun t i wr => ∃ (k : Nat) (tt : Int), k ≤ m ∧ i = .int .i64 k ∧ t = .int .i64 tt ∧ lookG S.T (c.drop k) tt = wr0 ∧ Below w.heap.size w wr) (fun _ i _ => m - (intOf i).toNat)
  case atStart => exact ⟨0, 0, Nat.zero_le _, rfl, rfl, HE.out, Below.refl _ _⟩
  case round =>
    obtain ⟨k, tt, hk, rfl, rfl, hg, hb⟩ := hrel
    have HB := Lib.hid hb
    have HG := Lib.hid hg
    clear hb hg
    by_cases hlt : (k : Int) < (m : Int)
    · have hkc : k < c.length := by have := HM.out; omega
      have hd : c.drop k = c.getD k 0 :: c.drop (k + 1) := by
        rw [List.drop_eq_getElem_cons hkc, List.getD_eq_getElem?_getD, List.getElem?_eq_getElem hkc]; rfl
      have hxc : c.getD k 0 ∈ c := by rw [List.getD_eq_getElem?_getD, List.getElem?_eq_getElem hkc]; exact List.getElem_mem hkc
      obtain ⟨bb, off, rfl, hq⟩ := HC.out.resolve_left (fun e => by rw [e] at hkc; simp at hkc)
      have q1 := cellB (hq k hkc) HB.out
      obtain ⟨x, hx⟩ : ∃ x, x = c.getD k 0 := ⟨_, rfl⟩
      rw [← hx] at hd hxc q1
      have hG := HG.out
      rw [hd, lookG] at hG
      have HVX := Lib.hid (HV.out wr x HB.out hxc)
      obtain ⟨vx, hvx⟩ : ∃ vx, vx = valR x S.T := ⟨_, rfl⟩
      have hcs := valR_cases x S.T
      rw [← hvx] at HVX hG hcs
      have HGG := Lib.hid hG
      clear hG hd hxc hx hkc hq hvx
      go_wp2_with fail
      refine HVX.out.mono ?_
      rintro e w1 ⟨rfl, hb1⟩
      have HB1 := Lib.hid (HB.out.trans (hb1.mono HB.out.size))
      clear hb1
      rcases hcs with rfl | rfl | rfl
      · have HF : Hid (Ending.returned (.tuple #[.bool false, .int .i64 0]) = .returned (.tuple #[.bool wr0.1, .int .i64 wr0.2])) := Lib.hid (by have := HGG.out; rw [if_pos rfl] at this; rw [← this])
        go_wp2
        go_returns
        exact ⟨HF.out, HB1.out⟩
      · have hG := HGG.out
        rw [if_neg (by omega), if_pos rfl] at hG
        by_cases ht : tt = 0
        · rw [if_neg (by omega)] at hG
          have HGN := Lib.hid hG
          have hh : (tt != 0) = false := by rw [ht]; rfl
          clear hG
          subst ht
          go_wp2
          go_roundw
          case rel => exact ⟨k + 1, x, by omega, by go_num, rfl, HGN.out, HB1.out⟩
          case measure => simp [intOf]; omega
        · rw [if_pos ht] at hG
          have HF : Hid (Ending.returned (.tuple #[.bool false, .int .i64 0]) = .returned (.tuple #[.bool wr0.1, .int .i64 wr0.2])) := Lib.hid (by rw [← hG])
          have hh : (tt != 0) = true := by rw [bne_iff_ne]; exact ht
          clear hG
          go_wp2
          go_returns
          exact ⟨HF.out, HB1.out⟩
      · have hG := HGG.out
        rw [if_neg (by omega), if_neg (by omega)] at hG
        have HGN := Lib.hid hG
        clear hG
        go_wp2
        go_roundw
        case rel => exact ⟨k + 1, tt, by omega, by go_num, rfl, HGN.out, HB1.out⟩
        case measure => simp [intOf]; omega
    · obtain rfl : k = m := by omega
      have hG := HG.out
      rw [List.drop_eq_nil_of_le (by rw [← HM.out]; exact Nat.le_refl _), lookG] at hG
      have HF : Hid (Ending.returned (.tuple #[.bool (decide (tt = 0)), .int .i64 tt]) = .returned (.tuple #[.bool wr0.1, .int .i64 wr0.2])) := Lib.hid (by rw [← hG])
      have hb2 : decide (tt = 0) = (tt == 0) := by rw [Bool.eq_iff_iff]; simp
      rw [hb2] at HF
      clear hG hb2
      go_wp2
      go_returns
      exact ⟨HF.out, HB.out⟩
end
end Go.Proofs.Ytknpfopepedmmaa
