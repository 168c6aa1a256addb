/-
  Package cnf: Size and Holds, walked; the reference's Size, Holds, All; Lists.
-/
import Derived.Test.YtkofhilgehhopaaCnfD
namespace Go.Proofs.Ytkofhilgehhopaa
open Go.ChangeShapes Go.WideShapes Go.ChangeAt Go.RowKit
set_option linter.unusedVariables false
def sizeS (xss : List (List Int)) : Nat := (xss.map List.length).sum
theorem sizeS_snoc {xss : List (List Int)} {k : Nat} (hk : k < xss.length) : sizeS (xss.take (k + 1)) = sizeS (xss.take k) + (xss.getD k []).length := by
  rw [take_snocS hk]
  simp [sizeS]
theorem sizeS_le {xss : List (List Int)} (hl : ∀ j, j < xss.length → (xss.getD j []).length ≤ 1000000) : ∀ k, k ≤ xss.length → sizeS (xss.take k) ≤ k * 1000000
  | 0, _ => by simp [sizeS]
  | k + 1, h => by
    rw [sizeS_snoc (by omega), Nat.succ_mul]
    have := sizeS_le hl k (by omega)
    have := hl k (by omega)
    omega
/-- What a round reads of a list of lists. -/
theorem IntsS.row {w wr : World} {a : Option Addr} {n cap : Nat} {xss : List (List Int)} (h : IntsS w (.slice a n cap) xss) (hb : Below w.heap.size w wr) {k : Nat} (hk : k < xss.length) :
    ∃ b off ua uc, a = some ⟨b, off, none⟩ ∧ wr.cell? ⟨b, off + k, none⟩ = some (.slice ua (xss.getD k []).length uc) ∧ Ints wr (.slice ua (xss.getD k []).length uc) (xss.getD k []) := by
  obtain ⟨b, off, cap', u, he, hcell, hint⟩ := h.at_ hk
  injection he with e1 e2 e3
  obtain ⟨ua, uc, rfl, -⟩ := id hint
  exact ⟨b, off, ua, uc, e1, (hb.cell (p := ⟨b, off + k, none⟩) (World.block_lt_of_cell? w _ hcell)).trans hcell, hint.below hb⟩
/-! ### Holds -/
def ixB (xss : List (List Int)) (ms : List Bool) : Int := match xss.findIdx? (fun c => !holdsB c ms) with
  | some i => i
  | none => -1
def allB (xss : List (List Int)) (ms : List Bool) : Bool := xss.all fun c => holdsB c ms
def AllCl (xss : List (List Int)) : Prop := ∀ c ∈ xss, ClauseL c
theorem AllCl.at_ {xss : List (List Int)} (h : AllCl xss) {k : Nat} (hk : k < xss.length) : ClauseL (xss.getD k []) := by
  have := h _ (List.getElem_mem hk)
  simpa [List.getD, hk] using this
theorem ixB_at {xss : List (List Int)} {ms : List Bool} {k : Nat} (hk : k < xss.length) (hb : ∀ j, j < k → holdsB (xss.getD j []) ms = true) (h : holdsB (xss.getD k []) ms = false) : ixB xss ms = k := by
  have : xss.findIdx? (fun c => !holdsB c ms) = some k := by
    rw [List.findIdx?_eq_some_iff_getElem]
    refine ⟨hk, ?_, fun j hj => ?_⟩
    · have : xss.getD k [] = xss[k] := by simp [List.getD, hk]
      rw [← this, h]; rfl
    · have e : xss.getD j [] = xss[j]'(by omega) := by simp [List.getD, show j < xss.length by omega]
      rw [← e, hb j hj]; simp
  unfold ixB
  rw [this]
theorem ixB_none {xss : List (List Int)} {ms : List Bool} (hb : ∀ j, j < xss.length → holdsB (xss.getD j []) ms = true) : ixB xss ms = -1 := by
  have : xss.findIdx? (fun c => !holdsB c ms) = none := by
    rw [List.findIdx?_eq_none_iff]
    intro c hc
    obtain ⟨j, hj, rfl⟩ := List.getElem_of_mem hc
    have e : xss.getD j [] = xss[j] := by simp [List.getD, hj]
    rw [← e, hb j hj]; rfl
  unfold ixB
  rw [this]
theorem allB_at {xss : List (List Int)} {ms : List Bool} {k : Nat} (hk : k < xss.length) (h : holdsB (xss.getD k []) ms = false) : allB xss ms = false := by
  unfold allB
  rw [List.all_eq_false]
  exact ⟨_, List.getElem_mem hk, by simpa [List.getD, hk] using h⟩
theorem allB_none {xss : List (List Int)} {ms : List Bool} (hb : ∀ j, j < xss.length → holdsB (xss.getD j []) ms = true) : allB xss ms = true := by
  unfold allB
  rw [List.all_eq_true]
  intro c hc
  obtain ⟨j, hj, rfl⟩ := List.getElem_of_mem hc
  have e : xss.getD j [] = xss[j] := by simp [List.getD, hj]
  rw [← e, hb j hj]
theorem ixB_allB (xss : List (List Int)) (ms : List Bool) : (0 ≤ ixB xss ms) = (allB xss ms = false) := by
  unfold ixB allB
  cases h : xss.findIdx? (fun c => !holdsB c ms) with
  | none =>
    rw [List.findIdx?_eq_none_iff] at h
    simp only [eq_iff_iff]
    refine ⟨fun h' => absurd h' (by decide), fun h' => ?_⟩
    rw [List.all_eq_false] at h'
    obtain ⟨c, hc, hn⟩ := h'
    have := h c hc
    simp_all
  | some i =>
    rw [List.findIdx?_eq_some_iff_getElem] at h
    obtain ⟨hi, h1, -⟩ := h
    simp only [eq_iff_iff]
    refine ⟨fun _ => ?_, fun _ => by omega⟩
    rw [List.all_eq_false]
    exact ⟨_, List.getElem_mem hi, by simpa using h1⟩
theorem holds1 {w : World} {bx : Nat} {mv u : Value} {ms : List Bool} {c : List Int} (hbox : w.cell? ⟨bx, 0, none⟩ = some mv) (hb : Bools w mv ms) (hi : Ints w u c) (hc : ClauseL c) :
    Calls Try.prog 71 #[u, .pointer (some ⟨bx, 0, none⟩)] w fun e w' => e = .returned (.bool (!holdsB c ms)) ∧ Below w.heap.size w w' := by
  have HC := Lib.hid (cl_Holds hi hc hb)
  obtain ⟨ua, uc, rfl, -⟩ := hi
  obtain ⟨ma, mc, rfl, -⟩ := hb
  generalize c.length = n at *
  generalize ms.length = m at *
  clear hc
  go_enter Try.func71, Try.ntmps71
  go_wp2_with ((go_at_call 52; refine (HC.out).mono ?_; rintro e w' ⟨rfl, hq⟩))
  go_ret
  exact ⟨rfl, hq⟩
set_option maxHeartbeats 1000000 in
theorem index_some {w : World} {bx : Nat} {mv vl : Value} {ms : List Bool} {xss : List (List Int)} (h2 : IntsS w vl xss) (hcl : AllCl xss) (hbox : w.cell? ⟨bx, 0, none⟩ = some mv) (hb : Bools w mv ms) :
    Calls Try.prog 70 #[vl, .func (.func 71) #[] #[.pointer (some ⟨bx, 0, none⟩)]] w fun e w' => e = .returned (.int .i64 (ixB xss ms)) ∧ Below w.heap.size w w' := by
  obtain ⟨a, cap, hv, k1, k2⟩ := h2.form
  obtain ⟨ans, hans⟩ : ∃ b, b = ixB xss ms := ⟨_, rfl⟩
  rw [← hans]
  obtain ⟨n, hn⟩ : ∃ n, n = xss.length := ⟨_, rfl⟩
  rw [← hn] at hv k1
  subst hv
  have hm : n ≤ 9223372036854775807 := Nat.le_trans k1 k2
  have HS := Lib.hid h2
  have HN := Lib.hid hn
  have HA := Lib.hid hans
  have HCL := Lib.hid hcl
  have HBX := Lib.hid hbox
  have HBB := Lib.hid hb
  clear h2 hn hans hcl hbox hb k1 k2
  have eg : ∀ args w, (callFunc 71 args).run Try.prog w = .ok (.enter 71 args) w := enters_of Try.func71 (by kernel_rfl) rfl
  go_enter Try.func70, Try.ntmps70
  go_wp2
  go_loopw [8] (fun i wr => ∃ k : Nat, k ≤ n ∧ i = .int .i64 k ∧ (∀ j, j < k → holdsB (xss.getD j []) ms = true) ∧ Below w.heap.size w wr) (fun i _ => n - (intOf i).toNat)
  case atStart => exact ⟨0, Nat.zero_le _, rfl, fun _ h => absurd h (by omega), Below.refl _ _⟩
  case round =>
    obtain ⟨k, hk, rfl, hrel, hW⟩ := hrel
    have HR := Lib.hid hrel
    have HW := Lib.hid hW
    clear hrel hW
    by_cases hlt : (k : Int) < (n : Int)
    · have hkn : k < xss.length := by have := HN.out; omega
      obtain ⟨b, off, ua, uc, rfl, hcell, hint⟩ := HS.out.row HW.out hkn
      have hbx : wr.cell? ⟨bx, 0, none⟩ = some mv := (HW.out.cell (p := ⟨bx, 0, none⟩) (World.block_lt_of_cell? w _ HBX.out)).trans HBX.out
      have H1 := holds1 hbx (HBB.out.below HW.out) hint (HCL.out.at_ hkn)
      obtain ⟨c, hc⟩ : ∃ c, c = xss.getD k [] := ⟨_, rfl⟩
      rw [← hc] at hcell H1
      have HC := Lib.hid hc
      have H1 := Lib.hid H1
      have HK := Lib.hid hkn
      obtain ⟨cn, hcn⟩ : ∃ cn, cn = c.length := ⟨_, rfl⟩
      rw [← hcn] at hcell H1
      clear hint hkn hc hbx hcn
      cases hz : holdsB c ms
      · have HZ : Hid (ans = k) := Lib.hid (by rw [HA.out]; exact ixB_at HK.out HR.out (by rw [← HC.out]; exact hz))
        go_wp2_with fail
        refine H1.out.mono ?_
        rintro e w2 ⟨rfl, hb2⟩
        have HB2 := Lib.hid (HW.out.trans (hb2.mono HW.out.size))
        clear hb2
        go_wp2
        go_ret
        exact ⟨by rw [HZ.out]; rfl, HB2.out⟩
      · have HZ := Lib.hid hz
        go_wp2_with fail
        refine H1.out.mono ?_
        rintro e w2 ⟨rfl, hb2⟩
        have HB2 := Lib.hid (HW.out.trans (hb2.mono HW.out.size))
        clear hb2
        go_wp2
        go_roundw
        case rel =>
          refine ⟨k + 1, by omega, by go_num, fun j hj => ?_, HB2.out⟩
          rcases Nat.lt_or_ge j k with h | h
          · exact HR.out j h
          · rw [show j = k by omega, ← HC.out]; exact HZ.out
        case measure => simp [intOf]; omega
    · have HZ : Hid (ans = -1) := Lib.hid (by rw [HA.out]; exact ixB_none (fun j hj => HR.out j (by have := HN.out; omega)))
      go_wp2
      go_ret
      exact ⟨by rw [HZ.out]; rfl, HW.out⟩
end Go.Proofs.Ytkofhilgehhopaa
