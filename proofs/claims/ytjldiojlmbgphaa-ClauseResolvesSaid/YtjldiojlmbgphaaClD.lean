/-
  Clauses: Norm, walked.
-/
import Derived.Test.YtjldiojlmbgphaaClC
import Derived.IntWalk
namespace Go.Proofs.Ytjldiojlmbgphaa
open Go.ChangeShapes Go.WideShapes Go.ChangeAt Go.RowKit
open Go.Sort (Holds grow putRow)
set_option linter.unusedVariables false
theorem fine_norm (l : List Int) : fineC l = fineC (normC l) := fineC_mem fun a => (mem_normC l a).symm
def NormPost (w w' : World) (u : Value) (l : List Int) : Prop := OwnI w w' u (normC l)
theorem length_of_mem {l ys : List Int} (h : ys.Perm l) : ys.length = l.length := h.length_eq
/-- Rounds over a clause in order. -/
def AdjRel (xs : List Int) (k : Nat) : Prop := ∀ i, 0 < i → i < k → xs.getD i 0 ≠ -(xs.getD (i - 1) 0)
set_option maxHeartbeats 2000000 in
set_option maxRecDepth 100000 in
theorem cl_Norm {w : World} {v : Value} {l : List Int} (h : Ints w v l) (hcl : ClauseL l) (hs : l.length ≤ 1000000) :
    Calls Try.prog 17 #[v] w fun e w' => ∃ u, e = .returned (.tuple #[u, .bool (fineC l)]) ∧ NormPost w w' u l := by
  have HI := Lib.hid h
  have HCL := Lib.hid hcl
  have HL := Lib.hid hs
  clear h hcl hs
  obtain ⟨ans, hans⟩ : ∃ b, b = fineC l := ⟨_, rfl⟩
  rw [← hans]
  have HA := Lib.hid hans
  clear hans
  go_enter Try.func17, Try.ntmps17
  go_wp2_with fail
  refine (slices_Clone HI.out (by have := HL.out; omega)).mono ?_
  rintro e w1 ⟨u, rfl, hc⟩
  have hO : OwnI w w1 u l := ⟨hc.1, hc.2.2, hc.2.1⟩
  rcases hO.form2 with ⟨rfl, rfl⟩ | ⟨g, cap, cur, rfl, hg, hb, h1, h2, h3, h4⟩
  · have HO := Lib.hid hO.2.1
    have HZ : Hid (ans = true) := Lib.hid (by rw [HA.out]; rfl)
    clear hc hO
    go_wp2_with fail
    refine (sort_noneF _ _ _ _).mono ?_
    rintro e w2 ⟨rfl, rfl⟩
    go_wp2_with fail
    refine (comp_none _ _ _).mono ?_
    rintro e w2 ⟨rfl, rfl⟩
    go_wp2_with fail
    go_loopw [5, 14] (fun _ i wr => i = .int .i64 0 ∧ wr = w1) (fun _ i _ => 0)
    case atStart => exact ⟨rfl, rfl⟩
    case round =>
      obtain ⟨rfl, rfl⟩ := hrel
      go_wp2
      go_ret2
      exact ⟨.slice none 0 0, by rw [HZ.out]; rfl, ⟨World.ownsRow_nil _ _ _ _, HO.out, fun k hk => by simp [Value.ownBlock] at hk⟩⟩
  · have HO := Lib.hid hO
    have H1 := Lib.hid h1
    have H2 := Lib.hid h2
    have H3 := Lib.hid h3
    have H4 := Lib.hid h4
    have HB := Lib.hid hb
    have HG := Lib.hid hg
    clear hc hO h1 h2 h3 h4 hb hg
    obtain ⟨n, hn⟩ : ∃ n, n = l.length := ⟨_, rfl⟩
    have HS : Hid (Calls Try.prog 31 #[.slice (some ⟨g, 0, none⟩) n cap, .func (.func 32) #[] #[]] w1 fun e w' => e = .returned (.tuple #[]) ∧ SortedK w w' (.slice (some ⟨g, 0, none⟩) n cap) l) := Lib.hid (by
      rw [hn]; exact sort_someF HCL.out HO.out.2.1 HG.out HB.out H1.out H2.out H3.out H4.out (by have := HL.out; omega))
    rw [← hn]
    have HN := Lib.hid hn
    clear hn
    go_wp2_with fail
    refine HS.out.mono ?_
    rintro e w2 ⟨rfl, ys, hp, hk, ho⟩
    have hlen := length_of_mem hp
    have HK : Hid (Lib.compact ys = normC l) := Lib.hid (compactK_norm (fun a => hp.mem_iff) hk)
    have HC : Hid (Calls Try.prog 33 #[.slice (some ⟨g, 0, none⟩) n cap] w2 fun e w' => ∃ u, e = .returned u ∧ OwnI w w' u (Lib.compact ys)) := by
      refine Lib.hid ?_
      rcases ho.form2 with ⟨e, -⟩ | ⟨g', cap', cur', e, a0, a1, a2, a3, a4, a5⟩
      · cases e
      · injection e with e1 e2 e3
        injection e1 with e1
        injection e1 with e1
        subst e1 e3
        have := comp_some ho.2.1 a0 a1 a2 a3 a4 a5 (by rw [hlen]; have := HL.out; omega)
        rw [← e2] at this
        exact this
    clear hp hk ho hlen
    go_wp2_with fail
    refine HC.out.mono ?_
    rintro e w3 ⟨u, rfl, ho⟩
    rw [HK.out] at ho
    obtain ⟨A, cap2, rfl, hcp1, hcp2⟩ := ho.form
    have HF : Hid ((ans = true ↔ AdjRel (normC l) (normC l).length)) := Lib.hid (by rw [HA.out, fine_norm]; exact fineC_adj (strict_normC l) (clause_normC HCL.out))
    have HXS : Hid (ClauseL (normC l)) := Lib.hid (clause_normC HCL.out)
    have HML : Hid ((normC l).length ≤ 1000000) := Lib.hid (by have := length_normC l; have := HL.out; omega)
    have HU := Lib.hid ho
    obtain ⟨xs, hxs⟩ : ∃ xs, xs = normC l := ⟨_, rfl⟩
    rw [← hxs] at HF HXS HML HU hcp1 ⊢
    obtain ⟨m, hm⟩ : ∃ m, m = xs.length := ⟨_, rfl⟩
    rw [← hm] at hcp1 HU HML HF ⊢
    have HM := Lib.hid hm
    have HX := Lib.hid hxs
    have hm9 : m ≤ 1000000 := HML.out
    clear ho hxs hm HK HC HS
    go_wp2_with fail
    go_loopw [5, 14] (fun _ i wr => ∃ k : Nat, k ≤ m ∧ i = .int .i64 k ∧ AdjRel xs k ∧ ∃ nq, wr = w3.drewN nq) (fun _ i _ => m - (intOf i).toNat)
    case atStart => exact ⟨0, Nat.zero_le _, rfl, fun i h0 hi => absurd hi (by omega), 0, rfl⟩
    case round =>
      obtain ⟨k, hk, rfl, hadj, nq, rfl⟩ := hrel
      have HJ := Lib.hid hadj
      clear hadj
      by_cases hlt : (k : Int) < (m : Int)
      · have hkm : k < m := by omega
        obtain ⟨g2, hA, q2, -⟩ := HU.out.1.cellI HM.out hkm
        subst hA
        obtain ⟨y, hy⟩ : ∃ y, y = xs.getD k 0 := ⟨_, rfl⟩
        rw [← hy] at q2
        have HY := Lib.hid hy
        clear hy
        by_cases hk0 : k = 0
        · subst hk0
          have c1 : decide ((0 : Int) < ((0 : Nat) : Int)) = false := by decide
          have c2 : decide (0 < 0) = false := by decide
          go_wp2
          go_quiet (fail)
          go_wp2
          go_roundw
          case rel => exact ⟨1, by omega, rfl, fun i h0 hi => absurd hi (by omega), _, rfl⟩
          case measure => simp [intOf]; omega
        · obtain ⟨p, hp⟩ : ∃ p, p + 1 = k := ⟨k - 1, by omega⟩
          obtain ⟨g3, hA3, q3, -⟩ := HU.out.1.cellI HM.out (show p < m by omega)
          have hg3 : g2 = g3 := by injection hA3 with e; injection e
          subst hg3
          obtain ⟨z, hz⟩ : ∃ z, z = xs.getD p 0 := ⟨_, rfl⟩
          rw [← hz] at q3
          have hzb : small z := by rw [hz]; exact small_at HXS.out (by have := HM.out; omega)
          have HZ := Lib.hid hz
          obtain ⟨z0, z1⟩ := hzb
          have hneg : IntKind.i64.wrap (-z) = -z := IntWalk.i64_in _ (by omega)
          have hw : IntKind.i64.wrap ((k : Int) - 1) = (p : Int) := by rw [IntWalk.i64_in _ (by omega)]; omega
          have c1 : decide ((0 : Int) < (k : Int)) = true := decide_eq_true (by omega)
          have c2 : decide (0 < k) = true := decide_eq_true (by omega)
          have hpl : (p : Int) < (m : Int) := by omega
          have HP := Lib.hid hp
          clear hp hz hA3 hk0
          by_cases hyz : y = -z
          · have c3 : (y == -z) = true := by rw [beq_iff_eq]; exact hyz
            have HF2 : Hid (ans = false) := Lib.hid (by
              cases hans : ans
              · rfl
              · have := HF.out.1 hans k (by have := HP.out; omega) hkm
                rw [← HY.out, show k - 1 = p by have := HP.out; omega, ← HZ.out] at this
                exact absurd hyz this)
            clear hyz
            go_wp2
            go_quiet (fail)
            go_wp2
            go_ret2
            refine ⟨.slice (some ⟨g2, 0, none⟩) m cap2, by rw [HF2.out]; rfl, ?_⟩
            unfold NormPost
            rw [← HX.out]
            exact HU.out.below (below_drewN (below_drewN (Below.refl _ _) _) _)
          · have c3 : (y == -z) = false := by rw [beq_eq_false_iff_ne]; exact hyz
            have HN3 := Lib.hid hyz
            clear hyz
            go_wp2
            go_quiet (fail)
            go_wp2
            go_roundw
            case rel =>
              refine ⟨k + 1, by omega, by go_num, fun i h0 hi => ?_, _, rfl⟩
              rcases Nat.lt_or_ge i k with h | h
              · exact HJ.out i h0 h
              · have hik : i = k := by omega
                subst hik
                rw [← HY.out, show i - 1 = p by have := HP.out; omega, ← HZ.out]
                exact HN3.out
            case measure => simp [intOf]; omega
      · have HF2 : Hid (ans = true) := Lib.hid (HF.out.2 (by have e : k = m := by omega
                                                             rw [← e]; exact HJ.out))
        go_wp2
        go_ret2
        refine ⟨.slice A m cap2, by rw [HF2.out]; rfl, ?_⟩
        unfold NormPost
        rw [← HX.out]
        exact HU.out.below (below_drewN (Below.refl _ _) _)
end Go.Proofs.Ytjldiojlmbgphaa
