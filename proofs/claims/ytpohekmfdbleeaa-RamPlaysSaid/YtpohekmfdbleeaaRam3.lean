/-
  Package ram: Write.
-/
import Derived.Test.YtpohekmfdbleeaaRam2
namespace Go.Proofs.Ytpohekmfdbleeaa
open Go.ChangeShapes Go.WideShapes Go.ChangeAt Go.RowKit Go.Maps
set_option linter.unusedVariables false
def wrC (cs : CS) (x v : Int) : CS := if v = 0 then delC cs x else putC cs x v
theorem Chg.turned {w w' : World} {b : Nat} (h : w.mapTurned w' b) : Chg (fun k => k = b) w w' := Chg.of_grown h.grown (fun k hk => by injection hk with hk; exact hk.symm)
/-- What a Write leaves. -/
def WrPost (w : World) (r bm : Nat) (aw ww : Int) (cs : CS) (w' : World) : Prop := RamAt w' r bm aw ww cs ∧ Chg (fun k => k = bm) w w'

theorem ram_Write_no1 {w : World} {r bm : Nat} {aw ww : Int} {cs : CS} (h : RamAt w r bm aw ww cs) (x v : Int) (hx : wf x) (hf : fitsB x aw = false) :
    Calls Try.prog 16 #[.pointer (some ⟨r, 0, none⟩), .int .u64 x, .int .u64 v] w fun e w' => e = .returned (.bool false) ∧ w = w' := by
  obtain ⟨k0, k1, k2⟩ := h.cells
  obtain ⟨x0, x1⟩ := id hx
  clear h
  go_enter Try.func16, Try.ntmps16
  go_wp2_with ((go_at_call 20; refine (bits_Fits _ _ (by assumption) (by assumption) _).mono ?_; rintro e w' ⟨rfl, rfl⟩))
  go_ret
  exact ⟨rfl, rfl⟩
theorem ram_Write_no2 {w : World} {r bm : Nat} {aw ww : Int} {cs : CS} (h : RamAt w r bm aw ww cs) (x v : Int) (hx : wf x) (hv : wf v) (hf : fitsB x aw = true) (hg : fitsB v ww = false) :
    Calls Try.prog 16 #[.pointer (some ⟨r, 0, none⟩), .int .u64 x, .int .u64 v] w fun e w' => e = .returned (.bool false) ∧ w = w' := by
  obtain ⟨k0, k1, k2⟩ := h.cells
  obtain ⟨x0, x1⟩ := id hx
  obtain ⟨v0, v1⟩ := id hv
  clear h
  go_enter Try.func16, Try.ntmps16
  go_wp2_with ((go_at_call 20; refine (bits_Fits _ _ (by assumption) (by assumption) _).mono ?_; rintro e w' ⟨rfl, rfl⟩))
  go_ret
  exact ⟨rfl, rfl⟩
theorem ram_Write_del {w : World} {r bm : Nat} {aw ww : Int} {cs : CS} (h : RamAt w r bm aw ww cs) (x : Int) (hx : wf x) (hf : fitsB x aw = true) :
    Calls Try.prog 16 #[.pointer (some ⟨r, 0, none⟩), .int .u64 x, .int .u64 0] w fun e w' => e = .returned (.bool true) ∧ WrPost w r bm aw ww (delC cs x) w' := by
  have hkey := keyOf_int_mk Try.underlying23 (wf_lit hx)
  obtain ⟨k0, k1, k2⟩ := h.cells
  obtain ⟨x0, x1⟩ := id hx
  have v0 : (0 : Int) ≤ 0 := by omega
  have v1 : (0 : Int) < 18446744073709551616 := by omega
  have hg : fitsB 0 ww = true := by unfold fitsB; rw [Int.zero_ediv]; rfl
  have HO := Lib.hid h.2
  have HH := Lib.hid h
  clear h
  go_enter Try.func16, Try.ntmps16
  go_wp2_with (first | (go_at_call 20; refine (bits_Fits _ _ (by assumption) (by assumption) _).mono ?_; rintro e w' ⟨rfl, rfl⟩) | (at_delete; refine wpList_delete_own (H := Unit) _ rfl _ _ 45 23 rfl 23 keyedU Try.underlying45 _ bm _ (datC cs) rfl HO.out _ _ rfl hkey ?_; intro w1 hown1 hturn1))
  go_ret
  refine ⟨rfl, ?_⟩
  have hown2 := del_dat cs x ▸ hown1
  have hc := Chg.turned hturn1
  exact ⟨⟨HH.out.1.chg hc (fun e => HH.out.1.ne_map HH.out.2 e), MapAt.of hown2⟩, hc⟩
theorem ram_Write_put {w : World} {r bm : Nat} {aw ww : Int} {cs : CS} (h : RamAt w r bm aw ww cs) (x v : Int) (hx : wf x) (hv : wf v) (hf : fitsB x aw = true) (hg : fitsB v ww = true) (hv0 : v ≠ 0) (hs : cs.length < maxLen) :
    Calls Try.prog 16 #[.pointer (some ⟨r, 0, none⟩), .int .u64 x, .int .u64 v] w fun e w' => e = .returned (.bool true) ∧ WrPost w r bm aw ww (putC cs x v) w' := by
  have hkey := keyOf_int_mk Try.underlying23 (wf_lit hx)
  obtain ⟨k0, k1, k2⟩ := h.cells
  obtain ⟨x0, x1⟩ := id hx
  obtain ⟨v0, v1⟩ := id hv
  have hb : (v == 0) = false := by rw [beq_eq_false_iff_ne]; exact hv0
  have HO := Lib.hid h.2
  have HH := Lib.hid h
  have HS := Lib.hid hs
  have HV := Lib.hid (wf_lit hv)
  clear h hs hv0 hv
  go_enter Try.func16, Try.ntmps16
  go_wp2_with (first | (go_at_call 20; refine (bits_Fits _ _ (by assumption) (by assumption) _).mono ?_; rintro e w' ⟨rfl, rfl⟩) | (at_mapUpdate; refine wpList_mapUpdate_in (H := Unit) _ rfl _ _ _ 45 rfl 23 23 keyedU Try.underlying45 _ bm _ (datC cs) rfl HO.out HS.out _ _ _ rfl rfl hkey _ [] (plainElem_int Try.underlying23 HV.out) ?_; intro w1 hown1 hturn1))
  go_ret
  refine ⟨rfl, ?_⟩
  have hown2 := put_dat cs x v ▸ hown1
  have hc := Chg.turned hturn1
  exact ⟨⟨HH.out.1.chg hc (fun e => HH.out.1.ne_map HH.out.2 e), MapAt.of hown2⟩, hc⟩
/-- Write. -/
theorem ram_Write {w : World} {r bm : Nat} {aw ww : Int} {cs : CS} (h : RamAt w r bm aw ww cs) (x v : Int) (hx : wf x) (hv : wf v) (hs : cs.length < maxLen) :
    Calls Try.prog 16 #[.pointer (some ⟨r, 0, none⟩), .int .u64 x, .int .u64 v] w fun e w' => e = .returned (.bool (fitsB x aw && fitsB v ww)) ∧ WrPost w r bm aw ww (if (fitsB x aw && fitsB v ww) = true then wrC cs x v else cs) w' := by
  cases hf : fitsB x aw
  · exact (ram_Write_no1 h x v hx hf).mono fun e w' ⟨he, hw⟩ => ⟨he, by subst hw; exact ⟨h, Chg.refl _ _⟩⟩
  · cases hg : fitsB v ww
    · exact (ram_Write_no2 h x v hx hv hf hg).mono fun e w' ⟨he, hw⟩ => ⟨he, by subst hw; exact ⟨h, Chg.refl _ _⟩⟩
    · by_cases hv0 : v = 0
      · subst hv0
        exact (ram_Write_del h x hx hf).mono fun e w' ⟨he, hw⟩ => ⟨he, hw⟩
      · refine (ram_Write_put h x v hx hv hf hg hv0 hs).mono fun e w' ⟨he, hw⟩ => ⟨he, ?_⟩
        simp only [Bool.and_self, if_true, wrC, if_neg hv0]
        exact hw
end Go.Proofs.Ytpohekmfdbleeaa
