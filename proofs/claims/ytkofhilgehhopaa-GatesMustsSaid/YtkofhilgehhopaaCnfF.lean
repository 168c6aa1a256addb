/-
  Package cnf: Holds, walked; the reference's Holds and All; Lists, Same of truths.
-/
import Derived.Test.YtkofhilgehhopaaCnfE
namespace Go.Proofs.Ytkofhilgehhopaa
open Go.ChangeShapes Go.WideShapes Go.ChangeAt Go.RowKit
set_option linter.unusedVariables false
theorem Holds_all {w : World} {p vl mv : Value} {ms : List Bool} {xss : List (List Int)} (ha : ∀ W, Below w.heap.size w W → Calls Try.prog 59 #[p] W fun e w' => e = .returned vl ∧ W = w') (hp : p.oneCell' = true) (h2 : IntsS w vl xss) (hcl : AllCl xss) (hb : Bools w mv ms) :
    Calls Try.prog 53 #[p, mv] w fun e w' => e = .returned (.int .i64 (ixB xss ms)) ∧ Below w.heap.size w w' := by
  have hB : Below w.heap.size w (w.alloc (.cells #[mv] 38)) := (Below.refl _ _).alloc (Nat.le_refl _) _
  have hbox : (w.alloc (.cells #[mv] 38)).cell? ⟨w.heap.size, 0, none⟩ = some mv := (Blk.new w 38 #[mv]).cell 0
  have HI := Lib.hid (index_some (h2.below hB) hcl hbox (hb.below hB))
  have HA := Lib.hid (ha _ hB)
  have HB := Lib.hid hB
  obtain ⟨ma, mc, rfl, -⟩ := hb
  obtain ⟨a, cap, rfl, -, -⟩ := h2.form
  generalize ms.length = m at *
  generalize xss.length = n at *
  clear hB hbox h2 hcl ha
  go_enter Try.func53, Try.ntmps53
  go_wp2_with fail
  refine HA.out.mono ?_
  rintro e w1 ⟨rfl, rfl⟩
  go_wp2_with fail
  refine HI.out.mono ?_
  rintro e w1 ⟨rfl, hq⟩
  have HQ := Lib.hid (HB.out.trans (hq.mono HB.out.size))
  clear hq
  go_wp2
  go_ret
  exact ⟨rfl, HQ.out⟩
theorem Holds_ {B : Nat} {w : World} {f : Nat} {vars : Int} {xss : List (List Int)} (h : FAt B w f vars xss) {mv : Value} {ms : List Bool} (hcl : AllCl xss) (hb : Bools w mv ms) :
    Calls Try.prog 53 #[.pointer (some ⟨f, 0, none⟩), mv] w fun e w' => e = .returned (.int .i64 (ixB xss ms)) ∧ Below w.heap.size w w' := by
  obtain ⟨vl, c0, c1, h2⟩ := h.read
  exact Holds_all (fun W hW => all_ ((hW.cell (p := ⟨f, 1, none⟩) (World.block_lt_of_cell? w _ c1)).trans c1)) rfl h2 hcl hb
theorem Holds_nil {w : World} {mv : Value} {ms : List Bool} (hb : Bools w mv ms) :
    Calls Try.prog 53 #[.pointer none, mv] w fun e w' => e = .returned (.int .i64 (-1)) ∧ Below w.heap.size w w' :=
  Holds_all (xss := []) (ms := ms) (fun W hW => all_nil W) rfl (intsS_nil w) (fun c hc => by simp at hc) hb
set_option maxHeartbeats 1000000 in
theorem r17_All {w : World} {vl mv : Value} {ms : List Bool} {xss : List (List Int)} (h2 : IntsS w vl xss) (hcl : AllCl xss) (hb : Bools w mv ms) :
    Calls Try.prog 58 #[vl, mv] w fun e w' => e = .returned (.bool (allB xss ms)) ∧ w = w' := by
  obtain ⟨a, cap, hv, k1, k2⟩ := h2.form
  obtain ⟨ans, hans⟩ : ∃ b, b = allB xss ms := ⟨_, rfl⟩
  rw [← hans]
  obtain ⟨n, hn⟩ : ∃ n, n = xss.length := ⟨_, rfl⟩
  rw [← hn] at hv k1
  subst hv
  have hm : n ≤ 9223372036854775807 := Nat.le_trans k1 k2
  have HS := Lib.hid h2
  have HN := Lib.hid hn
  have HA := Lib.hid hans
  have HCL := Lib.hid hcl
  have HBB := Lib.hid hb
  obtain ⟨ma, mc, hmv, -⟩ := id hb
  obtain ⟨mn, hmn⟩ : ∃ mn, mn = ms.length := ⟨_, rfl⟩
  rw [← hmn] at hmv
  subst hmv
  clear h2 hn hans hcl hb k1 k2 hmn
  go_enter Try.func58, Try.ntmps58
  go_wp2
  go_loopw [5] (fun i wr => ∃ k : Nat, k ≤ n ∧ i = .int .i64 k ∧ (∀ j, j < k → holdsB (xss.getD j []) ms = true) ∧ wr = w) (fun i _ => n - (intOf i).toNat)
  case atStart => exact ⟨0, Nat.zero_le _, rfl, fun _ h => absurd h (by omega), rfl⟩
  case round =>
    obtain ⟨k, hk, rfl, hrel, rfl⟩ := hrel
    have HR := Lib.hid hrel
    clear hrel
    by_cases hlt : (k : Int) < (n : Int)
    · have hkn : k < xss.length := by have := HN.out; omega
      obtain ⟨b, off, ua, uc, rfl, hcell, hint⟩ := HS.out.row (Below.refl _ _) hkn
      have H1 := r17_Holds hint (HCL.out.at_ hkn) HBB.out
      obtain ⟨c, hc⟩ : ∃ c, c = xss.getD k [] := ⟨_, rfl⟩
      rw [← hc] at hcell H1
      have HC := Lib.hid hc
      have H1 := Lib.hid H1
      have HK := Lib.hid hkn
      obtain ⟨cn, hcn⟩ : ∃ cn, cn = c.length := ⟨_, rfl⟩
      rw [← hcn] at hcell H1
      clear hint hkn hc hcn
      cases hz : holdsB c ms
      · have HZ : Hid (ans = false) := Lib.hid (by rw [HA.out]; exact allB_at HK.out (by rw [← HC.out]; exact hz))
        go_wp2_with ((go_at_call 73; refine (H1.out).mono ?_; rintro e w' ⟨rfl, rfl⟩))
        go_ret
        exact ⟨by rw [HZ.out]; rfl, rfl⟩
      · have HZ := Lib.hid hz
        go_wp2_with ((go_at_call 73; refine (H1.out).mono ?_; rintro e w' ⟨rfl, rfl⟩))
        go_roundw
        case rel =>
          refine ⟨k + 1, by omega, by go_num, fun j hj => ?_, trivial⟩
          rcases Nat.lt_or_ge j k with h | h
          · exact HR.out j h
          · rw [show j = k by omega, ← HC.out]; exact HZ.out
        case measure => simp [intOf]; omega
    · have HZ : Hid (ans = true) := Lib.hid (by rw [HA.out]; exact allB_none (fun j hj => HR.out j (by have := HN.out; omega)))
      go_wp2
      go_ret
      exact ⟨by rw [HZ.out]; rfl, rfl⟩
/-! ### Lists: of the same lists -/
end Go.Proofs.Ytkofhilgehhopaa
