/-
  The law RupNils.
-/
import Derived.Test.YtknpfopepedmmaaRvJ
namespace Go.Proofs.Ytknpfopepedmmaa
open Go Go.ChangeShapes Go.WideShapes Go.ChangeAt Go.RowKit Go.Maps
set_option linter.unusedVariables false
set_option linter.unusedSimpArgs false
theorem intsS_lit1 {w : World} {u : Value} {c : List Int} (h : Ints w u c) : IntsS (w.alloc (.cells #[u] 28)) (.slice (some ⟨w.heap.size, 0, none⟩) 1 1) [c] := by
  refine ⟨_, 1, rfl, Nat.le_refl _, by decide, .inr ⟨w.heap.size, 0, rfl, fun j hj => ?_⟩⟩
  have : j = 0 := by simp at hj; omega
  subst this
  exact ⟨u, (Blk.new w 28 #[u]).cell 0, h.below ((Below.refl _ w).alloc (Nat.le_refl _) _)⟩
theorem fine1 (c : List Int) : fineR [c] = okC c := by simp [fineR]
set_option maxHeartbeats 4000000 in
set_option maxRecDepth 100000 in
theorem claw_rnils {w : World} {u : Value} {c : List Int} (h : Ints w u c) : Calls Try.prog 4 #[u] w fun e w' => e = .returned (.bool true) ∧ Below w.heap.size w w' := by
  obtain ⟨wa, hwa⟩ : ∃ wa, wa = w.alloc (.cells #[u] 28) := ⟨_, rfl⟩
  have hba : Below w.heap.size w wa := by rw [hwa]; exact (Below.refl _ w).alloc (Nat.le_refl _) _
  have hF := r25_Fine (w := wa) (v := .slice (some ⟨w.heap.size, 0, none⟩) 1 1) (xss := [c]) (by rw [hwa]; exact intsS_lit1 h)
  rw [fine1] at hF
  obtain ⟨b, hb⟩ : ∃ b, b = okC c := ⟨_, rfl⟩
  rw [← hb] at hF
  have HF := Lib.hid hF
  have HBA := Lib.hid hba
  obtain ⟨ua, uc, hue, -, -⟩ := h.form2
  obtain ⟨n, hn⟩ : ∃ n, n = c.length := ⟨_, rfl⟩
  rw [← hn] at hue
  clear hF hba h hb hn
  subst hue
  go_enter Try.func4, Try.ntmps4
  go_wp2_with fail
  rw [← hwa]
  refine HF.out.mono ?_
  rintro e w1 ⟨rfl, rfl⟩
  clear hwa HF
  cases b with
  | false =>
    have HA := Lib.hid (alive25 w1)
    go_wp2_with fail
    refine HA.out.mono ?_
    rintro e w2 ⟨rfl, hb2⟩
    have H2 := Lib.hid (HBA.out.trans (hb2.mono HBA.out.size))
    clear hb2
    go_wp2
    go_ret
    exact ⟨rfl, H2.out⟩
  | true =>
    have HRM := Lib.hid (remove_nil (.slice ua n uc) w1)
    go_wp2_with fail
    refine HRM.out.mono ?_
    rintro e w2 ⟨rfl, hb2⟩
    have H2 := Lib.hid (HBA.out.trans (hb2.mono HBA.out.size))
    clear hb2
    go_wp2_with fail
    refine (why_nil (.slice ua n uc) w2).mono ?_
    rintro e w3 ⟨rfl, rfl⟩
    go_wp2_with fail
    refine (add_nil (.slice ua n uc) w3).mono ?_
    rintro e w4 ⟨rfl, rfl⟩
    go_wp2_with fail
    refine (len_nil w4).mono ?_
    rintro e w5 ⟨rfl, rfl⟩
    have HA := Lib.hid (alive25 w5)
    go_wp2_with fail
    refine HA.out.mono ?_
    rintro e w6 ⟨rfl, hb6⟩
    have H6 := Lib.hid (H2.out.trans (hb6.mono H2.out.size))
    clear hb6
    go_wp2
    go_ret
    exact ⟨rfl, H6.out⟩
end Go.Proofs.Ytknpfopepedmmaa
