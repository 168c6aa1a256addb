/-
  Package cnf: Holds, walked; the reference's Holds and All; Lists, Same of truths.
-/
import Derived.Test.YtnpmaphedcfnnaaDoorCnfE
namespace Go.Proofs.YtnpmaphedcfnnaaDoor
open Go.ChangeShapes Go.WideShapes Go.ChangeAt Go.RowKit
set_option linter.unusedVariables false
theorem Holds_all {w : World} {p vl mv : Value} {ms : List Bool} {xss : List (List Int)} (ha : ∀ W, Below w.heap.size w W → Calls Tryd.prog 39 #[p] W fun e w' => e = .returned vl ∧ W = w') (hp : p.oneCell' = true) (h2 : IntsS w vl xss) (hcl : AllCl xss) (hb : Bools w mv ms) :
    Calls Tryd.prog 15 #[p, mv] w fun e w' => e = .returned (.int .i64 (ixB xss ms)) ∧ Below w.heap.size w w' := by
  have hB : Below w.heap.size w (w.alloc (.cells #[mv] 24)) := (Below.refl _ _).alloc (Nat.le_refl _) _
  have hbox : (w.alloc (.cells #[mv] 24)).cell? ⟨w.heap.size, 0, none⟩ = some mv := (Blk.new w 24 #[mv]).cell 0
  have HI := Lib.hid (index_some (h2.below hB) hcl hbox (hb.below hB))
  have HA := Lib.hid (ha _ hB)
  have HB := Lib.hid hB
  obtain ⟨ma, mc, rfl, -⟩ := hb
  obtain ⟨a, cap, rfl, -, -⟩ := h2.form
  generalize ms.length = m at *
  generalize xss.length = n at *
  clear hB hbox h2 hcl ha
  go_enter Tryd.func15, Tryd.ntmps15
  go_wp2_with fail
  refine HA.out.mono ?_
  rintro e w1 ⟨rfl, rfl⟩
  go_wp2_with fail
  refine HI.out.mono ?_
  rintro e w1 ⟨rfl, hq⟩
  have HQ := Lib.hid (HB.out.trans (hq.mono HB.out.size))
  clear hq
  go_wp2
  go_ret
  exact ⟨rfl, HQ.out⟩
theorem Holds_ {B : Nat} {w : World} {f : Nat} {vars : Int} {xss : List (List Int)} (h : FAt B w f vars xss) {mv : Value} {ms : List Bool} (hcl : AllCl xss) (hb : Bools w mv ms) :
    Calls Tryd.prog 15 #[.pointer (some ⟨f, 0, none⟩), mv] w fun e w' => e = .returned (.int .i64 (ixB xss ms)) ∧ Below w.heap.size w w' := by
  obtain ⟨vl, c0, c1, h2⟩ := h.read
  exact Holds_all (fun W hW => all_ ((hW.cell (p := ⟨f, 1, none⟩) (World.block_lt_of_cell? w _ c1)).trans c1)) rfl h2 hcl hb
theorem Holds_nil {w : World} {mv : Value} {ms : List Bool} (hb : Bools w mv ms) :
    Calls Tryd.prog 15 #[.pointer none, mv] w fun e w' => e = .returned (.int .i64 (-1)) ∧ Below w.heap.size w w' :=
  Holds_all (xss := []) (ms := ms) (fun W hW => all_nil W) rfl (intsS_nil w) (fun c hc => by simp at hc) hb
set_option maxHeartbeats 1000000 in
theorem r18_Holds {w : World} {vl mv : Value} {vars : Int} {ms : List Bool} {xss : List (List Int)} (h2 : IntsS w vl xss) (hcl : AllCl xss) (hb : Bools w mv ms) :
    Calls Tryd.prog 16 #[.agg #[.int .i64 vars, vl], mv] w fun e w' => e = .returned (.int .i64 (ixB xss ms)) ∧ Below w.heap.size w w' := by
  obtain ⟨a, cap, hv, k1, k2⟩ := h2.form
  obtain ⟨ans, hans⟩ : ∃ b, b = ixB xss ms := ⟨_, rfl⟩
  rw [← hans]
  obtain ⟨n, hn⟩ : ∃ n, n = xss.length := ⟨_, rfl⟩
  rw [← hn] at hv k1
  subst hv
  have hm : n ≤ 9223372036854775807 := Nat.le_trans k1 k2
  have HS := Lib.hid h2
  have HN := Lib.hid hn
  have HA := Lib.hid hans
  have HCL := Lib.hid hcl
  have HBB := Lib.hid hb
  obtain ⟨ma, mc, hmv, -⟩ := id hb
  obtain ⟨mn, hmn⟩ : ∃ mn, mn = ms.length := ⟨_, rfl⟩
  rw [← hmn] at hmv
  subst hmv
  have HB : Hid (Below w.heap.size w (w.alloc (.cells #[.int .i64 vars, .slice a n cap] 31))) := Lib.hid ((Below.refl _ _).alloc (Nat.le_refl _) _)
  clear h2 hn hans hcl hb k1 k2 hmn
  go_enter Tryd.func16, Tryd.ntmps16
  go_wp2
  go_loopw [5] (fun i wr => ∃ k : Nat, k ≤ n ∧ i = .int .i64 k ∧ (∀ j, j < k → holdsB (xss.getD j []) ms = true) ∧ wr = w.alloc (.cells #[.int .i64 vars, .slice a n cap] 31)) (fun i _ => n - (intOf i).toNat)
  case atStart => exact ⟨0, Nat.zero_le _, rfl, fun _ h => absurd h (by omega), rfl⟩
  case round =>
    obtain ⟨k, hk, rfl, hrel, rfl⟩ := hrel
    have HR := Lib.hid hrel
    clear hrel
    by_cases hlt : (k : Int) < (n : Int)
    · have hkn : k < xss.length := by have := HN.out; omega
      obtain ⟨b, off, ua, uc, rfl, hcell, hint⟩ := HS.out.row HB.out hkn
      have H1 := r17_Holds hint (HCL.out.at_ hkn) (HBB.out.below HB.out)
      obtain ⟨c, hc⟩ : ∃ c, c = xss.getD k [] := ⟨_, rfl⟩
      rw [← hc] at hcell H1
      have HC := Lib.hid hc
      have H1 := Lib.hid H1
      have HK := Lib.hid hkn
      obtain ⟨cn, hcn⟩ : ∃ cn, cn = c.length := ⟨_, rfl⟩
      rw [← hcn] at hcell H1
      clear hint hkn hc hcn
      cases hz : holdsB c ms
      · have HZ : Hid (ans = k) := Lib.hid (by rw [HA.out]; exact ixB_at HK.out HR.out (by rw [← HC.out]; exact hz))
        go_wp2_with ((go_at_call 41; refine (H1.out).mono ?_; rintro e w' ⟨rfl, rfl⟩))
        go_ret
        exact ⟨by rw [HZ.out]; rfl, HB.out⟩
      · have HZ := Lib.hid hz
        go_wp2_with ((go_at_call 41; refine (H1.out).mono ?_; rintro e w' ⟨rfl, rfl⟩))
        go_roundw
        case rel =>
          refine ⟨k + 1, by omega, by go_num, fun j hj => ?_, trivial⟩
          rcases Nat.lt_or_ge j k with h | h
          · exact HR.out j h
          · rw [show j = k by omega, ← HC.out]; exact HZ.out
        case measure => simp [intOf]; omega
    · have HZ : Hid (ans = -1) := Lib.hid (by rw [HA.out]; exact ixB_none (fun j hj => HR.out j (by have := HN.out; omega)))
      go_wp2
      go_ret
      exact ⟨by rw [HZ.out]; rfl, HB.out⟩
set_option maxHeartbeats 1000000 in
theorem r17_All {w : World} {vl mv : Value} {ms : List Bool} {xss : List (List Int)} (h2 : IntsS w vl xss) (hcl : AllCl xss) (hb : Bools w mv ms) :
    Calls Tryd.prog 36 #[vl, mv] w fun e w' => e = .returned (.bool (allB xss ms)) ∧ w = w' := by
  obtain ⟨a, cap, hv, k1, k2⟩ := h2.form
  obtain ⟨ans, hans⟩ : ∃ b, b = allB xss ms := ⟨_, rfl⟩
  rw [← hans]
  obtain ⟨n, hn⟩ : ∃ n, n = xss.length := ⟨_, rfl⟩
  rw [← hn] at hv k1
  subst hv
  have hm : n ≤ 9223372036854775807 := Nat.le_trans k1 k2
  have HS := Lib.hid h2
  have HN := Lib.hid hn
  have HA := Lib.hid hans
  have HCL := Lib.hid hcl
  have HBB := Lib.hid hb
  obtain ⟨ma, mc, hmv, -⟩ := id hb
  obtain ⟨mn, hmn⟩ : ∃ mn, mn = ms.length := ⟨_, rfl⟩
  rw [← hmn] at hmv
  subst hmv
  clear h2 hn hans hcl hb k1 k2 hmn
  go_enter Tryd.func36, Tryd.ntmps36
  go_wp2
  go_loopw [5] (fun i wr => ∃ k : Nat, k ≤ n ∧ i = .int .i64 k ∧ (∀ j, j < k → holdsB (xss.getD j []) ms = true) ∧ wr = w) (fun i _ => n - (intOf i).toNat)
  case atStart => exact ⟨0, Nat.zero_le _, rfl, fun _ h => absurd h (by omega), rfl⟩
  case round =>
    obtain ⟨k, hk, rfl, hrel, rfl⟩ := hrel
    have HR := Lib.hid hrel
    clear hrel
    by_cases hlt : (k : Int) < (n : Int)
    · have hkn : k < xss.length := by have := HN.out; omega
      obtain ⟨b, off, ua, uc, rfl, hcell, hint⟩ := HS.out.row (Below.refl _ _) hkn
      have H1 := r17_Holds hint (HCL.out.at_ hkn) HBB.out
      obtain ⟨c, hc⟩ : ∃ c, c = xss.getD k [] := ⟨_, rfl⟩
      rw [← hc] at hcell H1
      have HC := Lib.hid hc
      have H1 := Lib.hid H1
      have HK := Lib.hid hkn
      obtain ⟨cn, hcn⟩ : ∃ cn, cn = c.length := ⟨_, rfl⟩
      rw [← hcn] at hcell H1
      clear hint hkn hc hcn
      cases hz : holdsB c ms
      · have HZ : Hid (ans = false) := Lib.hid (by rw [HA.out]; exact allB_at HK.out (by rw [← HC.out]; exact hz))
        go_wp2_with ((go_at_call 41; refine (H1.out).mono ?_; rintro e w' ⟨rfl, rfl⟩))
        go_ret
        exact ⟨by rw [HZ.out]; rfl, rfl⟩
      · have HZ := Lib.hid hz
        go_wp2_with ((go_at_call 41; refine (H1.out).mono ?_; rintro e w' ⟨rfl, rfl⟩))
        go_roundw
        case rel =>
          refine ⟨k + 1, by omega, by go_num, fun j hj => ?_, trivial⟩
          rcases Nat.lt_or_ge j k with h | h
          · exact HR.out j h
          · rw [show j = k by omega, ← HC.out]; exact HZ.out
        case measure => simp [intOf]; omega
    · have HZ : Hid (ans = true) := Lib.hid (by rw [HA.out]; exact allB_none (fun j hj => HR.out j (by have := HN.out; omega)))
      go_wp2
      go_ret
      exact ⟨by rw [HZ.out]; rfl, rfl⟩
/-! ### Lists: of the same lists -/
theorem sameI_self {w : World} {u v : Value} {xs : List Int} (h : Ints w u xs) (g : Ints w v xs) : Calls Tryd.prog 42 #[u, v] w fun e w' => e = .returned (.bool true) ∧ Quiet w w' := by
  have := r01_Same h g
  rw [sameB_self] at this
  exact this
set_option maxHeartbeats 1000000 in
theorem Lists_same {w : World} {u v : Value} {xss : List (List Int)} (h : IntsS w u xss) (g : IntsS w v xss) :
    Calls Tryd.prog 19 #[u, v] w fun e w' => e = .returned (.bool true) ∧ Quiet w w' := by
  obtain ⟨a, cap, hu, k1, k2⟩ := h.form
  obtain ⟨a2, cap2, hv, -, -⟩ := g.form
  obtain ⟨n, hn⟩ : ∃ n, n = xss.length := ⟨_, rfl⟩
  rw [← hn] at hu hv k1
  subst hu hv
  have hm : n ≤ 9223372036854775807 := Nat.le_trans k1 k2
  have HS := Lib.hid h
  have HG := Lib.hid g
  have HN := Lib.hid hn
  clear h g hn k1 k2
  go_enter Tryd.func19, Tryd.ntmps19
  go_wp2
  go_loopw [5] (fun i wr => ∃ k : Nat, k ≤ n ∧ i = .int .i64 k ∧ Quiet w wr) (fun i _ => n - (intOf i).toNat)
  case atStart => exact ⟨0, Nat.zero_le _, rfl, 0, rfl⟩
  case round =>
    obtain ⟨k, hk, rfl, hq⟩ := hrel
    by_cases hlt : (k : Int) < (n : Int)
    · have hkn : k < xss.length := by have := HN.out; omega
      obtain ⟨b, off, ua, uc, rfl, hcell, hint⟩ := HS.out.row hq.below hkn
      obtain ⟨b2, off2, ua2, uc2, rfl, hcell2, hint2⟩ := HG.out.row hq.below hkn
      have H1 := fun m : Nat => sameI_self (w := wr.drewN m) (hint.drewN m) (hint2.drewN m)
      obtain ⟨c, hc⟩ : ∃ c, c = xss.getD k [] := ⟨_, rfl⟩
      rw [← hc] at hcell hcell2 H1
      obtain ⟨cn, hcn⟩ : ∃ cn, cn = c.length := ⟨_, rfl⟩
      rw [← hcn] at hcell hcell2 H1
      have H1 := Lib.hid H1
      have HQ := Lib.hid hq
      clear hint hint2 hkn hc hcn hq
      go_wp2
      go_quiet ((go_at_call 42; exact Calls.quiet_of ((H1.out _).mono fun _ _ h => h)))
      go_wp2
      go_roundw
      case rel => exact ⟨k + 1, by omega, by go_num, by obtain ⟨m, rfl⟩ := HQ.out; exact ⟨_, World.drewN_drewN _ _ _⟩⟩
      case measure => simp [intOf]; omega
    · have HQ := Lib.hid hq
      clear hq
      go_wp2
      go_ret
      exact ⟨rfl, HQ.out⟩
end Go.Proofs.YtnpmaphedcfnnaaDoor
