/-
  The law's light and made, walked.
-/
import Derived.Test.YtnpmaphedcfnnaaDoorCnfM
import Derived.Deep.RegionLaw
namespace Go.Proofs.YtnpmaphedcfnnaaDoor
open Go.ChangeShapes Go.WideShapes Go.ChangeAt Go.RowKit
set_option linter.unusedVariables false
/-- What a round reads of the acts. -/
theorem acts_at {w : World} {a : Option Addr} {n cap : Nat} {xs : List ActC} (h : ActsC w (.slice a n cap) xs) {k : Nat} (hk : k < xs.length) :
    ∃ b off ua uc, a = some ⟨b, off, none⟩ ∧ b < w.heap.size ∧ Ints w (.slice ua (xs.getD k (0, [], 0)).2.1.length uc) (xs.getD k (0, [], 0)).2.1 ∧ ∀ wr, Below w.heap.size w wr →
      wr.cell? ⟨b, off + k * 3, none⟩ = some (.int .i64 (xs.getD k (0, [], 0)).1) ∧ wr.cell? ⟨b, off + k * 3 + 1, none⟩ = some (.slice ua (xs.getD k (0, [], 0)).2.1.length uc) ∧ wr.cell? ⟨b, off + k * 3 + 2, none⟩ = some (.int .i64 (xs.getD k (0, [], 0)).2.2) := by
  obtain ⟨a', cap', hv, -, -, h3⟩ := h
  injection hv with e1 e2 e3
  subst e1
  have hne : xs ≠ [] := fun e => by rw [e] at hk; simp at hk
  obtain ⟨b, off, rfl, hc⟩ := h3.resolve_left hne
  obtain ⟨c0, ⟨u, c1, hu⟩, c2⟩ := hc k hk
  have hu' := hu
  obtain ⟨ua, uc, rfl, -⟩ := hu'
  have hlt := World.block_lt_of_cell? w _ c0
  refine ⟨b, off, ua, uc, rfl, hlt, hu, fun wr hb => ⟨?_, ?_, ?_⟩⟩
  · exact (hb.cell (p := ⟨b, off + k * 3, none⟩) hlt).trans c0
  · exact (hb.cell (p := ⟨b, off + k * 3 + 1, none⟩) hlt).trans c1
  · exact (hb.cell (p := ⟨b, off + k * 3 + 2, none⟩) hlt).trans c2
theorem ActsC.form {w : World} {v : Value} {xs : List ActC} (h : ActsC w v xs) : ∃ a cap, v = .slice a xs.length cap ∧ xs.length ≤ cap ∧ cap ≤ maxLen := by
  obtain ⟨a, cap, rfl, h1, h2, -⟩ := h
  exact ⟨a, cap, rfl, h1, h2⟩
theorem light_no {xs : List ActC} {k : Nat} (hk : k < xs.length) (h : 60 < (xs.getD k (0, [], 0)).2.1.length) : lightB xs = false := by
  have : xs.all (fun a => decide (a.2.1.length ≤ 60)) = false := by
    rw [List.all_eq_false]
    refine ⟨xs[k], List.getElem_mem hk, ?_⟩
    have e : xs.getD k (0, [], 0) = xs[k] := by simp [List.getD, hk]
    rw [← e]
    intro h'
    have := of_decide_eq_true h'
    omega
  unfold lightB
  rw [this, Bool.and_false]
theorem light_yes {xs : List ActC} (hn : xs.length ≤ 60) (h : ∀ k, k < xs.length → (xs.getD k (0, [], 0)).2.1.length ≤ 60) : lightB xs = true := by
  unfold lightB
  rw [decide_eq_true hn, Bool.true_and, List.all_eq_true]
  intro x hx
  obtain ⟨j, hj, rfl⟩ := List.getElem_of_mem hx
  have := h j hj
  have e : xs.getD j (0, [], 0) = xs[j] := by simp [List.getD, hj]
  rw [e] at this
  exact decide_eq_true this
theorem lightB_at {xs : List ActC} (h : lightB xs = true) : xs.length ≤ 60 ∧ ∀ k, k < xs.length → (xs.getD k (0, [], 0)).2.1.length ≤ 60 := by
  unfold lightB at h
  rw [Bool.and_eq_true, decide_eq_true_eq, List.all_eq_true] at h
  refine ⟨h.1, fun k hk => ?_⟩
  have := h.2 _ (List.getElem_mem hk)
  have e : xs.getD k (0, [], 0) = xs[k] := by simp [List.getD, hk]
  rw [e]
  exact of_decide_eq_true this
set_option maxHeartbeats 1000000 in
theorem light_ {w : World} {v : Value} {xs : List ActC} (h : ActsC w v xs) : Calls Tryd.prog 8 #[v] w fun e w' => e = .returned (.bool (lightB xs)) ∧ w = w' := by
  obtain ⟨a, cap, hv, k1, k2⟩ := h.form
  obtain ⟨n, hn⟩ : ∃ n, n = xs.length := ⟨_, rfl⟩
  rw [← hn] at hv k1
  subst hv
  have hm : n ≤ 9223372036854775807 := Nat.le_trans k1 k2
  obtain ⟨ans, hans⟩ : ∃ ans, ans = lightB xs := ⟨_, rfl⟩
  rw [← hans]
  have HA := Lib.hid hans
  have HN := Lib.hid hn
  have HX := Lib.hid h
  clear h hn hans k1 k2
  by_cases hbig : 60 < n
  · have HZ : Hid (ans = false) := Lib.hid (by rw [HA.out]; unfold lightB; rw [decide_eq_false (by have := HN.out; omega), Bool.false_and])
    go_enter Tryd.func8, Tryd.ntmps8
    go_wp2
    go_ret
    exact ⟨by rw [HZ.out]; rfl, rfl⟩
  · go_enter Tryd.func8, Tryd.ntmps8
    go_wp2
    go_loopw [3] (fun i wr => ∃ k : Nat, k ≤ n ∧ i = .int .i64 k ∧ (∀ j, j < k → (xs.getD j (0, [], 0)).2.1.length ≤ 60) ∧ wr = w) (fun i _ => n - (intOf i).toNat)
    case atStart => exact ⟨0, Nat.zero_le _, rfl, fun _ h => absurd h (by omega), rfl⟩
    case round =>
      obtain ⟨k, hk, rfl, hrel, rfl⟩ := hrel
      have HR := Lib.hid hrel
      clear hrel
      by_cases hlt : (k : Int) < (n : Int)
      · have hkn : k < xs.length := by have := HN.out; omega
        obtain ⟨b, off, ua, uc, rfl, -, -, hc⟩ := acts_at HX.out hkn
        obtain ⟨-, c1, -⟩ := hc wr (Below.refl _ _)
        obtain ⟨m, hm2⟩ : ∃ m, m = (xs.getD k (0, [], 0)).2.1.length := ⟨_, rfl⟩
        rw [← hm2] at c1
        have HM := Lib.hid hm2
        have HK := Lib.hid hkn
        clear hc hm2 hkn
        by_cases hbig2 : 60 < m
        · have HZ : Hid (ans = false) := Lib.hid (by rw [HA.out]; exact light_no HK.out (by rw [← HM.out]; exact hbig2))
          go_wp2
          go_ret
          exact ⟨by rw [HZ.out]; rfl, rfl⟩
        · go_wp2
          go_roundw
          case rel =>
            refine ⟨k + 1, by omega, by go_num, fun j hj => ?_, trivial⟩
            rcases Nat.lt_or_ge j k with h | h
            · exact HR.out j h
            · rw [show j = k by omega, ← HM.out]; omega
          case measure => simp [intOf]; omega
      · have HZ : Hid (ans = true) := Lib.hid (by rw [HA.out]; exact light_yes (by have := HN.out; omega) (fun j hj => HR.out j (by have := HN.out; omega)))
        go_wp2
        go_ret
        exact ⟨by rw [HZ.out]; rfl, rfl⟩
/-- What made tells. -/
def MadePost (w : World) (s : St) (e : Ending) (w' : World) : Prop :=
  ∃ f v, e = .returned (.tuple #[.pointer (some ⟨f, 0, none⟩), .agg #[.int .i64 s.1, v], .bool true]) ∧ FAt w.heap.size w' f s.1 s.2 ∧ IntsS w' v s.2 ∧ Below w.heap.size w w'
set_option maxHeartbeats 1000000 in
set_option maxRecDepth 100000 in
theorem made_off {w : World} (v : Int) (hv : v < 0 ∨ 65536 < v) {u : Value} {xs : List ActC} (h : ActsC w u xs) :
    Calls Tryd.prog 11 #[.int .i64 v, u] w fun e w' => e = .returned (.tuple #[.pointer none, .agg #[.int .i64 0, .slice none 0 0], .bool true]) ∧ Below w.heap.size w w' := by
  have HN := Lib.hid (New_off v hv)
  obtain ⟨a, cap, rfl, -, -⟩ := h.form
  generalize xs.length = n at *
  clear h
  rcases hv with hv | hv
  all_goals
    go_enter Tryd.func11, Tryd.ntmps11
    go_wp2_with fail
    refine (HN.out _).mono ?_
    rintro e w1 ⟨rfl, rfl⟩
    go_wp2
    refine bodyPost_ret (v := .tuple #[.pointer none, .agg #[.int .i64 0, .slice none 0 0], .bool true]) (by simp [results, Tryd.results11, go_sem]) rfl ⟨rfl, ?_⟩
    exact ((Below.refl _ w).alloc (Nat.le_refl _) _).alloc (by simp) _
theorem FAtF.ne {fp : Nat → Prop} {B : Nat} {w : World} {f : Nat} {vars : Int} {xss : List (List Int)} (h : FAtF fp B w f vars xss) {g : Nat} (hg : ¬ fp g) : g ≠ f := by
  obtain ⟨-, vl, us, -, -, -, -, h5, -⟩ := h
  rintro rfl
  exact hg (h5 _ (.inl rfl))
theorem New_F (n : Int) (h0 : 0 ≤ n) (h1 : n ≤ 65536) (w : World) : Calls Tryd.prog 29 #[.int .i64 n] w fun e w' => e = .returned (.pointer (some ⟨w.heap.size, 0, none⟩)) ∧ FAtF (fun g => g = w.heap.size) w.heap.size w' w.heap.size n [] ∧ Below w.heap.size w w' ∧ w'.heap.size = w.heap.size + 1 := by
  go_enter Tryd.func29, Tryd.ntmps29
  go_wp2
  go_ret
  refine ⟨rfl, ⟨Nat.le_refl _, .slice none 0 0, [], Blk.new w 64 _, World.ownsRow_nil _ _ _ _, fun g hg => by simp [Value.ownBlock] at hg, Cls.nil _ _, fun g hg => ?_, fun g hg => ?_⟩, (Below.refl _ _).alloc (Nat.le_refl _) _, by simp⟩
  · rcases hg with h | h | ⟨j, hj, -⟩
    · exact h
    · simp [Value.ownBlock] at h
    · simp at hj
  · subst hg; simp
end Go.Proofs.YtnpmaphedcfnnaaDoor
