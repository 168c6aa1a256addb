/-
  Package watch: the two best literals first.
-/
import Derived.Test.YtghlgegfokjgbaaWaB
import Derived.BigRegion
import Derived.Deep.DeepCutAuto
namespace Go.Proofs.Ytghlgegfokjgbaa
open Go.ChangeShapes Go.WideShapes Go.ChangeAt Go.RowKit
set_option linter.unusedVariables false
def sw (c : List Int) (i k : Nat) : List Int := (c.set i (c.getD k 0)).set k (c.getD i 0)
def stepF (t : TS) (i : Nat) (c : List Int) (k : Nat) : List Int := if bet t (c.getD k 0) (c.getD i 0) then sw c i k else c
def innF (t : TS) (i : Nat) (c : List Int) (k : Nat) : List Int := (List.range' (i + 1) (k - (i + 1))).foldl (stepF t i) c
def firF (t : TS) (c : List Int) (i : Nat) : List Int := (List.range i).foldl (fun c i => innF t i c c.length) c
theorem sw_len (c : List Int) (i k : Nat) : (sw c i k).length = c.length := by simp [sw]
theorem stepF_len (t : TS) (i : Nat) (c : List Int) (k : Nat) : (stepF t i c k).length = c.length := by unfold stepF; split <;> simp [sw_len]
theorem fold_len {α : Type} (f : List Int → α → List Int) (hf : ∀ c k, (f c k).length = c.length) : ∀ (xs : List α) (c : List Int), (xs.foldl f c).length = c.length
  | [], c => rfl
  | x :: xs, c => by rw [List.foldl_cons, fold_len f hf xs, hf]
theorem innF_len (t : TS) (i : Nat) (c : List Int) (k : Nat) : (innF t i c k).length = c.length := fold_len _ (stepF_len t i) _ _
theorem firF_len (t : TS) (c : List Int) (i : Nat) : (firF t c i).length = c.length := fold_len _ (fun c k => innF_len t k c c.length) _ _
theorem innF_start (t : TS) (i : Nat) (c : List Int) : innF t i c (i + 1) = c := by unfold innF; simp
theorem innF_step (t : TS) (i : Nat) (c : List Int) (k : Nat) (h : i + 1 ≤ k) : innF t i c (k + 1) = stepF t i (innF t i c k) k := by
  unfold innF
  have e : k + 1 - (i + 1) = (k - (i + 1)) + 1 := by omega
  rw [e, List.range'_concat, List.foldl_append]
  have e2 : i + 1 + 1 * (k - (i + 1)) = k := by omega
  rw [e2]
  rfl
theorem firF_step (t : TS) (c : List Int) (i : Nat) : firF t c (i + 1) = innF t i (firF t c i) c.length := by
  unfold firF
  rw [List.range_succ, List.foldl_append]
  simp only [List.foldl_cons, List.foldl_nil]
  congr 1
  exact firF_len t c i
/-- All literals are small. -/
def Lits3 (c : List Int) : Prop := ∀ x ∈ c, lit3 x
theorem Lits3.at_ {c : List Int} (h : Lits3 c) (j : Nat) : lit3 (c.getD j 0) := by
  by_cases hj : j < c.length
  · have := h c[j] (List.getElem_mem hj)
    simpa [List.getD, hj] using this
  · simp [List.getD, hj, lit3]
theorem mem_set_sub {c : List Int} {i : Nat} {y x : Int} (h : x ∈ c.set i y) : x ∈ c ∨ x = y := List.mem_or_eq_of_mem_set h
theorem Lits3.sw {c : List Int} (h : Lits3 c) (i k : Nat) : Lits3 (sw c i k) := by
  intro x hx
  rcases mem_set_sub hx with hx | rfl
  · rcases mem_set_sub hx with hx | rfl
    · exact h x hx
    · exact h.at_ _
  · exact h.at_ _
theorem Lits3.stepF {c : List Int} (h : Lits3 c) (t : TS) (i k : Nat) : Lits3 (stepF t i c k) := by unfold Go.Proofs.Ytghlgegfokjgbaa.stepF; split; exact h.sw _ _; exact h
theorem fold_lits {α : Type} (f : List Int → α → List Int) (hf : ∀ c k, Lits3 c → Lits3 (f c k)) : ∀ (xs : List α) (c : List Int), Lits3 c → Lits3 (xs.foldl f c)
  | [], c, h => h
  | x :: xs, c, h => by rw [List.foldl_cons]; exact fold_lits f hf xs _ (hf _ _ h)
theorem Lits3.innF {c : List Int} (h : Lits3 c) (t : TS) (i k : Nat) : Lits3 (innF t i c k) := fold_lits _ (fun c k hc => hc.stepF t i k) _ _ h
theorem Lits3.firF {c : List Int} (h : Lits3 c) (t : TS) (i : Nat) : Lits3 (firF t c i) := fold_lits _ (fun c k hc => hc.innF t k c.length) _ _ h
/-- What 'first' keeps: the watch, the clause's row (in a block of nobody's), the world else. -/
def FirW (B : Nat) (w : World) (r : Nat → Nat) (wb t : Nat) (S : WS) (u : Value) (g : Option Nat) (c : List Int) (wr : World) : Prop :=
  WAt B wr r wb t S ∧ LR wr u c g ∧ (∀ b, g = some b → r b = 0) ∧ Chg (fun k => g = some k) w wr
theorem FirW.below {B : Nat} {w : World} {r : Nat → Nat} {wb t : Nat} {S : WS} {u : Value} {g : Option Nat} {c : List Int} {wr wx : World} (h : FirW B w r wb t S u g c wr) (hb : Below wr.heap.size wr wx) : FirW B w r wb t S u g c wx := by
  obtain ⟨h1, h2, h3, h4⟩ := h
  exact ⟨h1.below hb, h2.below hb, h3, h4.trans (S' := fun _ => False) (Chg.of_below hb) (fun _ h => h.elim)⟩
theorem FirW.swap {B : Nat} {w : World} {r : Nat → Nat} {wb t : Nat} {S : WS} {b cap : Nat} {g : Option Nat} {c : List Int} {wr : World} (hg : g = some b) (h : FirW B w r wb t S (.slice (some ⟨b, 0, none⟩) c.length cap) g c wr) (i k : Nat) (x y : Int) (n : Nat) (hn : n = c.length) (hx : x = c.getD i 0) (hy : y = c.getD k 0) (hB : B ≤ b ∨ True) :
    FirW B w r wb t S (.slice (some ⟨b, 0, none⟩) n cap) g (sw c i k) ((wr.setCell ⟨b, i, none⟩ (.int .i64 y)).setCell ⟨b, k, none⟩ (.int .i64 x)) := by
  obtain ⟨h1, h2, h3, h4⟩ := h
  have q1 := h2.set1 hg i y
  have q2 := q1.set1 hg k x
  have hc1 : Chg (fun j => j = b) wr ((wr.setCell ⟨b, i, none⟩ (.int .i64 y)).setCell ⟨b, k, none⟩ (.int .i64 x)) := ((Chg.refl (fun j => j = b) wr).setCell (p := ⟨b, i, none⟩) (.inl rfl) _).setCell (p := ⟨b, k, none⟩) (.inl rfl) _
  refine ⟨h1.chg hc1 (fun j hj e => hj (by rw [e]; exact h3 b hg)), ?_, h3, h4.trans hc1 (fun j e => .inl (by rw [hg, e]))⟩
  unfold sw
  rw [← hx, ← hy]
  have e : n = ((c.set i y).set k x).length := by simp [hn]
  rw [e]
  exact q2
set_option maxHeartbeats 1000000 in
set_option maxRecDepth 100000 in
theorem first_ {B : Nat} {w : World} {r : Nat → Nat} {wb t : Nat} {S : WS} {u : Value} {g : Option Nat} {c : List Int} (h : FirW B w r wb t S u g c w) (hs : Signs S.t) (hl : Lits3 c) (hn : c.length ≤ 1000) :
    Calls Try.prog 28 #[.pointer (some ⟨wb, 0, none⟩), u] w fun e w' => e = .returned (.tuple #[]) ∧ FirW B w r wb t S u g (firF S.t c (min 2 c.length)) w' := by
  obtain ⟨a, cap, rfl, -, -⟩ := h.2.1.form
  obtain ⟨n, hnn⟩ : ∃ n, n = c.length := ⟨_, rfl⟩
  have H0 := Lib.hid h
  have HS := Lib.hid hs
  have HL := Lib.hid hl
  obtain ⟨m, hm⟩ : ∃ m, m = min 2 c.length := ⟨_, rfl⟩
  rw [← hm]
  have hmn : m ≤ n := by omega
  rw [← hnn] at H0 hn ⊢
  have hmi : (if (n : Int) < 2 then (n : Int) else 2) = (m : Int) := by split <;> omega
  have HN := Lib.hid hnn
  clear h hs hl hnn hm
  go_enter Try.func28, Try.ntmps28
  go_wp2
  go_loopw [4, 5, 9] (fun i4 k5 i wr => ∃ j : Nat, j ≤ m ∧ i = .int .i64 j ∧ FirW B w r wb t S (.slice a n cap) g (firF S.t c j) wr) (fun _ _ i _ => m - (intOf i).toNat)
  case atStart => exact ⟨0, Nat.zero_le _, rfl, H0.out⟩
  case round =>
    obtain ⟨j, hj, rfl, hF⟩ := hrel
    by_cases hlt : (j : Int) < (m : Int)
    · have hst := firF_step S.t c j
      have hfl : (firF S.t c j).length = n := by rw [firF_len]; exact HN.out.symm
      have hl0 := HL.out.firF S.t j
      rw [← HN.out] at hst
      obtain ⟨c0, hc0⟩ : ∃ c0, c0 = firF S.t c j := ⟨_, rfl⟩
      rw [← hc0] at hst hF hfl hl0
      have HST := Lib.hid hst
      have HF := Lib.hid hF
      have HFL := Lib.hid hfl
      have HL0 := Lib.hid hl0
      clear hst hF hfl hl0 hc0
      obtain ⟨wo, rfl⟩ : ∃ wo : World, wo = wr := ⟨_, rfl⟩
      go_wp2
      go_loopw [5] (fun k wi => ∃ q : Nat, j + 1 ≤ q ∧ q ≤ n ∧ k = .int .i64 q ∧ FirW B w r wb t S (.slice a n cap) g (innF S.t j c0 q) wi) (fun k _ => n - (intOf k).toNat)
      case atStart => exact ⟨j + 1, Nat.le_refl _, by omega, by go_num, by rw [innF_start]; exact HF.out⟩
      case round =>
        obtain ⟨q, hq1, hq2, rfl, hF2⟩ := hrel
        by_cases hlq : (q : Int) < (n : Int)
        · have hstep := innF_step S.t j c0 q hq1
          have hil : (innF S.t j c0 q).length = n := by rw [innF_len]; exact HFL.out
          have hl1 := HL0.out.innF S.t j q
          obtain ⟨c1, hc1⟩ : ∃ c1, c1 = innF S.t j c0 q := ⟨_, rfl⟩
          rw [← hc1] at hstep hF2 hil hl1
          obtain ⟨b, cap', hv, hg, x0, f0⟩ := hF2.2.1.at_ (j := j) (by omega)
          obtain ⟨b', cap'', hv', hg', y0, f1⟩ := hF2.2.1.at_ (j := q) (by omega)
          rw [hg] at hg'
          injection hg' with hg'
          subst hg'
          injection hv with e1 e2 e3
          subst e1 e3
          obtain ⟨x, hx⟩ : ∃ x, x = c1.getD j 0 := ⟨_, rfl⟩
          obtain ⟨y, hy⟩ : ∃ y, y = c1.getD q 0 := ⟨_, rfl⟩
          have hlx : lit3 x := by rw [hx]; exact hl1.at_ _
          have hly : lit3 y := by rw [hy]; exact hl1.at_ _
          rw [← hx] at x0
          rw [← hy] at y0
          have i0 : (0 : Int) ≤ (j : Int) := by omega
          have i1 : (j : Int) < (n : Int) := by omega
          have i2 : (0 : Int) ≤ (q : Int) := by omega
          have KX : Hid (∀ W, Below wr.heap.size wr W → W.cell? ⟨b, j, none⟩ = some (.int .i64 x) ∧ W.cell? ⟨b, q, none⟩ = some (.int .i64 y) ∧ W.frozen? ⟨b, j, none⟩ = false ∧ W.frozen? ⟨b, q, none⟩ = false) := Lib.hid fun W hW => by
            have hbl := World.block_lt_of_cell? wr _ x0
            exact ⟨(hW.cell (p := ⟨b, j, none⟩) hbl).trans x0, (hW.cell (p := ⟨b, q, none⟩) hbl).trans y0, (hW.frozen (p := ⟨b, j, none⟩) hbl).trans f0, (hW.frozen (p := ⟨b, q, none⟩) hbl).trans f1⟩
          have HB := Lib.hid (fun W hW => better_ (hF2.below (wx := W) hW).1 HS.out y x hly hlx)
          have HST2 := Lib.hid hstep
          have HF2 := Lib.hid hF2
          have HX := Lib.hid hx
          have HY := Lib.hid hy
          have HIL := Lib.hid hil
          have HG := Lib.hid hg
          clear hstep hF2 hil hl1 hc1 hx hy hlx hly e2 hv' hg
          cases hbet : bet S.t y x with
          | false =>
            rw [hbet] at HB
            have HBE := Lib.hid hbet
            clear hbet
            go_wp2
            go_region_held3 (fun w' => w'.cell? ⟨b, j, none⟩ = some (.int .i64 x) ∧ w'.cell? ⟨b, q, none⟩ = some (.int .i64 y)) (go_keep) ((go_at_call 52; (with_reducible refine (HB.out _ ((Below.refl _ _).drew)).mono ?_); rintro e w2 ⟨rfl, hb2⟩; have B2 := Lib.hid (((Below.refl wr.heap.size wr).drew).trans hb2); obtain ⟨c1, c2, d1, d2⟩ := KX.out w2 B2.out; clear hb2))
            clear c1 c2 d1 d2
            go_wp2
            go_roundw
            case rel => exact ⟨q + 1, by omega, by omega, by go_num, by
              rw [HST2.out]
              unfold stepF
              rw [← HX.out, ← HY.out, HBE.out]
              exact HF2.out.below B2.out⟩
            case measure => simp [intOf]; omega
          | true =>
            rw [hbet] at HB
            have HBE := Lib.hid hbet
            have hne : (j : Int) ≠ (q : Int) := by omega
            have hjq : j ≠ q := by omega
            clear hbet
            go_wp2
            go_region_held3 (fun w' => w'.cell? ⟨b, j, none⟩ = some (.int .i64 x) ∧ w'.cell? ⟨b, q, none⟩ = some (.int .i64 y)) (go_keep) ((go_at_call 52; (with_reducible refine (HB.out _ ((Below.refl _ _).drew)).mono ?_); rintro e w2 ⟨rfl, hb2⟩; have B2 := Lib.hid (((Below.refl wr.heap.size wr).drew).trans hb2); obtain ⟨c1, c2, d1, d2⟩ := KX.out w2 B2.out; clear hb2))
            go_wp2
            go_region
            all_goals
              clear c1 c2 d1 d2
              go_wp2
              go_roundw
              case rel => exact ⟨q + 1, by omega, by omega, by go_num, by
                rw [HST2.out]
                unfold stepF
                rw [← HX.out, ← HY.out, HBE.out, if_pos rfl]
                have h0 := HF2.out.below (B2.out.trans (Below.refl _ _).drew)
                rw [← HIL.out] at h0
                exact FirW.swap (g := g) HG.out h0 j q x y n HIL.out.symm HX.out HY.out (.inr trivial)⟩
              case measure => simp [intOf]; omega
        · have hqn : q = n := by omega
          have HE : Hid (innF S.t j c0 q = firF S.t c (j + 1)) := Lib.hid (by rw [HST.out, hqn])
          have HF2 := Lib.hid hF2
          clear hqn hF2
          go_wp2
          go_roundw
          case rel => exact ⟨j + 1, by omega, by go_num, by rw [← HE.out]; exact HF2.out⟩
          case measure => simp [intOf]; omega
    · have hjm : j = m := by omega
      rw [hjm] at hF
      have HF := Lib.hid hF
      clear hF hjm
      go_wp2
      go_returns
      exact ⟨rfl, HF.out⟩
end Go.Proofs.Ytghlgegfokjgbaa
