/-
  Package rup: Len, walked.
-/
import Derived.Test.YtknpfopepedmmaaRuY
namespace Go.Proofs.Ytknpfopepedmmaa
open Go Go.ChangeShapes Go.WideShapes Go.ChangeAt Go.RowKit Go.Maps
set_option linter.unusedVariables false
set_option linter.unusedSimpArgs false
/-- How many clauses are there. -/
def RS.live (S : RS) : List Nat := (List.range S.on.length).filter S.onA
theorem RS.live_mem {S : RS} {i : Nat} : i ∈ S.live ↔ S.onA i = true := by
  unfold RS.live
  rw [List.mem_filter, List.mem_range]
  refine ⟨fun h => h.2, fun h => ⟨?_, h⟩⟩
  unfold RS.onA at h
  by_cases hl : i < S.on.length
  · exact hl
  · rw [List.getD_eq_getElem?_getD, List.getElem?_eq_none (by omega)] at h; simp at h
theorem RS.live_len {S : RS} {ks : List Int} (hn : ks.Nodup) (hm : ∀ x, x ∈ ks ↔ (onF S x).isSome = true) : ks.length = S.live.length := by
  have hp : ks.Perm (S.live.map fun i : Nat => (i : Int)) := by
    refine (List.perm_ext_iff_of_nodup hn ?_).2 ?_
    · have h0 : S.live.Nodup := List.nodup_range.filter _
      rw [List.Nodup, List.pairwise_map]
      exact h0.imp fun h e => h (by omega)
    · intro x
      rw [hm, List.mem_map]
      constructor
      · intro h
        unfold onF at h
        by_cases hc : 0 ≤ x ∧ S.onA x.toNat = true
        · exact ⟨x.toNat, RS.live_mem.2 hc.2, by omega⟩
        · rw [if_neg hc] at h; simp at h
      · rintro ⟨i, hi, rfl⟩
        unfold onF
        rw [if_pos ⟨by omega, by simpa using RS.live_mem.1 hi⟩]; rfl
  rw [hp.length_eq, List.length_map]
set_option maxHeartbeats 4000000 in
set_option maxRecDepth 100000 in
theorem rupLen_ {w : World} {r : Nat} {S : RS} {K : Nat → Prop} (h : CkAt w r S K) :
    Calls Try.prog 21 #[kp r] w fun e w' => e = .returned (.int .i64 (S.live.length : Nat)) ∧ w' = w := by
  obtain ⟨vl, vt, bt, bo, bm, nt, no, nm, us, ho, hk, hK, hnt, hno⟩ := h
  obtain ⟨ks, h1, h2, h3⟩ := hk.t.len tmB 3
  have c1 : w.cell? ⟨r, 1, none⟩ = some (.map (some bt)) := hk.b.cell 1
  have hl := RS.live_len h2 h3
  rw [hl] at h1
  clear hk hK hnt hno h2 h3 hl
  go_enter Try.func21, Try.ntmps21
  go_wp2_with fail
  go_returns
  exact ⟨rfl, rfl⟩
end Go.Proofs.Ytknpfopepedmmaa
