/-
  The same truths, cells: package slices' Equal, the document's; plain.
-/
import Derived.Test.YtibinmabdidecaaGreatDoorTrD
namespace Go.Proofs.YtibinmabdidecaaGreatDoor
open Go.ChangeShapes Go.WideShapes Go.ChangeAt Go.RowKit
set_option linter.unusedVariables false
theorem ext_D {α : Type} (d : α) {xs ys : List α} (hl : xs.length = ys.length) (h : ∀ j, j < xs.length → xs.getD j d = ys.getD j d) : xs = ys := by
  apply List.ext_getElem hl
  intro i h1 h2
  have := h i h1
  simpa [List.getD, h1, h2] using this
/-- Before round k of a comparison. -/
def SameK {α : Type} (d : α) (xs ys : List α) (k : Nat) : Prop := ∀ j, j < k → xs.getD j d = ys.getD j d
theorem SameK.step {α : Type} {d : α} {xs ys : List α} {k : Nat} (h : SameK d xs ys k) (he : xs.getD k d = ys.getD k d) : SameK d xs ys (k + 1) := fun j hj => by
  rcases Nat.lt_or_ge j k with h1 | h1
  · exact h j h1
  · rw [show j = k by omega]; exact he
def SamR {α : Type} (d : α) (xs ys : List α) (k : Nat) (w wr : World) : Prop := SameK d xs ys k ∧ Quiet w wr
theorem r10_Same_len {w : World} {v u : Value} {xs ys : List (Bool)} (h : Seq w 1 BoR false v xs) (g : Seq w 1 BoR false u ys) (hn : xs.length ≠ ys.length) : Calls Tryz.prog 24 #[v, u] w fun e w' => e = .returned (.bool (decide (xs = ys))) ∧ w = w' := by
  obtain ⟨a, cap, rfl, -, -⟩ := h.form
  obtain ⟨b, cap2, rfl, -, -⟩ := g.form
  have hs : decide (xs = ys) = false := decide_eq_false fun e => hn (by rw [e])
  have hb : ((xs.length : Int) != (ys.length : Int)) = true := by rw [bne_iff_ne]; omega
  rw [hs]
  clear h g hn hs
  go_enter Tryz.func24, Tryz.ntmps24
  go_wp2
  go_ret
  exact ⟨rfl, rfl⟩
set_option maxHeartbeats 1000000 in
theorem r10_Same {w : World} {v u : Value} {xs ys : List (Bool)} (h : Seq w 1 BoR false v xs) (g : Seq w 1 BoR false u ys) : Calls Tryz.prog 24 #[v, u] w fun e w' => e = .returned (.bool (decide (xs = ys))) ∧ Quiet w w' := by
  by_cases hl : xs.length = ys.length
  · obtain ⟨a, cap, hv, hc1, hc2⟩ := h.form
    obtain ⟨b, cap2, hu, -, -⟩ := g.form
    subst hv hu
    obtain ⟨n, hn⟩ : ∃ n, n = xs.length := ⟨_, rfl⟩
    obtain ⟨ans, hans⟩ : ∃ ans, ans = decide (xs = ys) := ⟨_, rfl⟩
    have hm : n ≤ 9223372036854775807 := by rw [hn]; exact Nat.le_trans hc1 hc2
    rw [← hl, ← hn, ← hans]
    have HN := Lib.hid hn
    have HL := Lib.hid hl
    have HA := Lib.hid hans
    have H := Lib.hid h
    have G := Lib.hid g
    clear hc1 hc2 hn hans hl h g
    go_enter Tryz.func24, Tryz.ntmps24
    go_wp2
    go_loopw [5] (fun i wr => ∃ k : Nat, k ≤ n ∧ i = .int .i64 k ∧ SamR false xs ys k w wr) (fun i _ => n - (intOf i).toNat)
    case atStart => exact ⟨0, Nat.zero_le _, rfl, fun _ h => absurd h (by omega), 0, rfl⟩
    case round =>
      obtain ⟨k, hk, rfl, hsr⟩ := hrel
      obtain ⟨hsk, hq⟩ := hsr
      have HQ := Lib.hid hq
      by_cases hlt : (k : Int) < (n : Int)
      · have hkx : k < xs.length := by have := HN.out; omega
        have hky : k < ys.length := by have := HL.out; omega
        obtain ⟨b1, o1, p1, he1, hx⟩ := H.out.at_ hkx
        obtain ⟨b2, o2, p2, he2, hy⟩ := G.out.at_ hky
        injection he1 with e1 e2 e3
        subst e1
        injection he2 with e4 e5 e6
        subst e4
        have hx := stays_bo hx hq.below
        have hy := stays_bo hy hq.below
        have HS := Lib.hid hsk
        have HNO : Hid (xs.getD k false ≠ ys.getD k false → ans = false) := Lib.hid fun h => by rw [HA.out]; exact decide_eq_false fun e => h (by rw [e])
        have HYES : Hid (xs.getD k false = ys.getD k false → SameK false xs ys (k + 1)) := Lib.hid fun h => HS.out.step h
        unfold BoR at hx hy
        rw [Nat.mul_one] at hx hy
        generalize xs.getD k false = x at hx hy HNO HYES
        generalize ys.getD k false = y at hx hy HNO HYES
        clear e2 e3 e5 e6 hsk hq
        by_cases hxy : x = y
        · subst hxy
          have HY := Lib.hid (HYES.out rfl)
          have hb : (x != x) = false := by simp
          clear HYES HNO
          go_wp2
          go_quiet (fail)
          go_wp2
          go_roundw
          case rel => exact ⟨k + 1, by omega, by go_num, HY.out, by obtain ⟨m, hm⟩ := HQ.out; subst hm; exact ⟨_, World.drewN_drewN _ _ _⟩⟩
          case measure => simp [intOf]; omega
        · have HX := Lib.hid (HNO.out hxy)
          clear HYES HNO
          cases x <;> cases y
          all_goals first
            | exact absurd rfl hxy
            | skip
          all_goals
            clear hxy
            go_wp2
            go_quiet (fail)
            go_wp2
            go_ret
            refine ⟨by rw [HX.out]; rfl, ?_⟩
            obtain ⟨m, hm⟩ := HQ.out
            subst hm
            exact ⟨_, World.drewN_drewN _ _ _⟩
      · have hkn : k = n := by omega
        have HX : Hid (ans = true) := Lib.hid (by rw [HA.out]; exact decide_eq_true (ext_D false HL.out (fun j hj => hsk j (by have := HN.out; omega))))
        clear hsk hq hkn
        go_wp2
        go_ret
        exact ⟨by rw [HX.out]; rfl, HQ.out⟩
  · exact (r10_Same_len h g hl).mono fun e w' ⟨h1, h2⟩ => ⟨h1, 0, h2.symm⟩
theorem eq_B_len {w : World} {v u : Value} {xs ys : List (Bool)} (h : Seq w 1 BoR false v xs) (g : Seq w 1 BoR false u ys) (hn : xs.length ≠ ys.length) : Calls Tryz.prog 29 #[v, u] w fun e w' => e = .returned (.bool (decide (xs = ys))) ∧ w = w' := by
  obtain ⟨a, cap, rfl, -, -⟩ := h.form
  obtain ⟨b, cap2, rfl, -, -⟩ := g.form
  have hs : decide (xs = ys) = false := decide_eq_false fun e => hn (by rw [e])
  have hb : ((xs.length : Int) != (ys.length : Int)) = true := by rw [bne_iff_ne]; omega
  rw [hs]
  clear h g hn hs
  go_enter Tryz.func29, Tryz.ntmps29
  go_wp2
  go_ret
  exact ⟨rfl, rfl⟩
set_option maxHeartbeats 1000000 in
theorem eq_B {w : World} {v u : Value} {xs ys : List (Bool)} (h : Seq w 1 BoR false v xs) (g : Seq w 1 BoR false u ys) : Calls Tryz.prog 29 #[v, u] w fun e w' => e = .returned (.bool (decide (xs = ys))) ∧ Quiet w w' := by
  by_cases hl : xs.length = ys.length
  · obtain ⟨a, cap, hv, hc1, hc2⟩ := h.form
    obtain ⟨b, cap2, hu, -, -⟩ := g.form
    subst hv hu
    obtain ⟨n, hn⟩ : ∃ n, n = xs.length := ⟨_, rfl⟩
    obtain ⟨ans, hans⟩ : ∃ ans, ans = decide (xs = ys) := ⟨_, rfl⟩
    have hm : n ≤ 9223372036854775807 := by rw [hn]; exact Nat.le_trans hc1 hc2
    rw [← hl, ← hn, ← hans]
    have HN := Lib.hid hn
    have HL := Lib.hid hl
    have HA := Lib.hid hans
    have H := Lib.hid h
    have G := Lib.hid g
    clear hc1 hc2 hn hans hl h g
    go_enter Tryz.func29, Tryz.ntmps29
    go_wp2
    go_loopw [13] (fun i wr => ∃ k : Nat, k ≤ n ∧ i = .int .i64 k ∧ SamR false xs ys k w wr) (fun i _ => n - (intOf i).toNat)
    case atStart => exact ⟨0, Nat.zero_le _, rfl, fun _ h => absurd h (by omega), 0, rfl⟩
    case round =>
      obtain ⟨k, hk, rfl, hsr⟩ := hrel
      obtain ⟨hsk, hq⟩ := hsr
      have HQ := Lib.hid hq
      by_cases hlt : (k : Int) < (n : Int)
      · have hkx : k < xs.length := by have := HN.out; omega
        have hky : k < ys.length := by have := HL.out; omega
        obtain ⟨b1, o1, p1, he1, hx⟩ := H.out.at_ hkx
        obtain ⟨b2, o2, p2, he2, hy⟩ := G.out.at_ hky
        injection he1 with e1 e2 e3
        subst e1
        injection he2 with e4 e5 e6
        subst e4
        have hx := stays_bo hx hq.below
        have hy := stays_bo hy hq.below
        have HS := Lib.hid hsk
        have HNO : Hid (xs.getD k false ≠ ys.getD k false → ans = false) := Lib.hid fun h => by rw [HA.out]; exact decide_eq_false fun e => h (by rw [e])
        have HYES : Hid (xs.getD k false = ys.getD k false → SameK false xs ys (k + 1)) := Lib.hid fun h => HS.out.step h
        unfold BoR at hx hy
        rw [Nat.mul_one] at hx hy
        generalize xs.getD k false = x at hx hy HNO HYES
        generalize ys.getD k false = y at hx hy HNO HYES
        clear e2 e3 e5 e6 hsk hq
        by_cases hxy : x = y
        · subst hxy
          have HY := Lib.hid (HYES.out rfl)
          have hb : (x != x) = false := by simp
          clear HYES HNO
          go_wp2
          go_quiet (fail)
          go_wp2
          go_roundw
          case rel => exact ⟨k + 1, by omega, by go_num, HY.out, by obtain ⟨m, hm⟩ := HQ.out; subst hm; exact ⟨_, World.drewN_drewN _ _ _⟩⟩
          case measure => simp [intOf]; omega
        · have HX := Lib.hid (HNO.out hxy)
          clear HYES HNO
          cases x <;> cases y
          all_goals first
            | exact absurd rfl hxy
            | skip
          all_goals
            clear hxy
            go_wp2
            go_quiet (fail)
            go_wp2
            go_ret
            refine ⟨by rw [HX.out]; rfl, ?_⟩
            obtain ⟨m, hm⟩ := HQ.out
            subst hm
            exact ⟨_, World.drewN_drewN _ _ _⟩
      · have hkn : k = n := by omega
        have HX : Hid (ans = true) := Lib.hid (by rw [HA.out]; exact decide_eq_true (ext_D false HL.out (fun j hj => hsk j (by have := HN.out; omega))))
        clear hsk hq hkn
        go_wp2
        go_ret
        exact ⟨by rw [HX.out]; rfl, HQ.out⟩
  · exact (eq_B_len h g hl).mono fun e w' ⟨h1, h2⟩ => ⟨h1, 0, h2.symm⟩
theorem neq_cell (x x' y y' : Int) (W : World) : (binOp .neq 64 (.agg #[.int .u64 x, .int .u64 x']) (.agg #[.int .u64 y, .int .u64 y'])).run Tryz.prog W = .ok (.bool (!((x == y) && (x' == y')))) W := by
  rw [run_neq_struct, run_equalIn_agg (P := Tryz.prog) W 9999 64 _ _ (by kernel_rfl) (by kernel_rfl)]
  go_simp
  by_cases h1 : x = y <;> by_cases h2 : x' = y' <;> simp [h1, h2]
theorem pairs_lens {w : World} {v : Value} {xs : CS} (h : Pairs w v xs) : ∃ a cap, v = .slice a xs.length cap ∧ xs.length ≤ cap ∧ cap ≤ maxLen := by
  obtain ⟨a, cap, h1, h2, h3, -⟩ := h; exact ⟨a, cap, h1, h2, h3⟩
theorem pairs_at {w : World} {v : Value} {xs : CS} (h : Pairs w v xs) {k : Nat} (hk : k < xs.length) : ∃ b off cap, v = .slice (some ⟨b, off, none⟩) xs.length cap ∧ w.cell? ⟨b, off + k * 2, none⟩ = some (.int .u64 (xs.getD k (0, 0)).1) ∧ w.cell? ⟨b, off + k * 2 + 1, none⟩ = some (.int .u64 (xs.getD k (0, 0)).2) := by
  obtain ⟨a, cap, rfl, -, -, -, hv⟩ := h
  have hne : xs ≠ [] := fun e => by rw [e] at hk; simp at hk
  obtain ⟨b, off, rfl, -, hc⟩ := hv.resolve_left hne
  exact ⟨b, off, cap, rfl, hc k hk⟩
theorem eq_C_len {w : World} {v u : Value} {xs ys : CS} (h : Pairs w v xs) (g : Pairs w u ys) (hn : xs.length ≠ ys.length) : Calls Tryz.prog 32 #[v, u] w fun e w' => e = .returned (.bool (decide (xs = ys))) ∧ w = w' := by
  obtain ⟨a, cap, rfl, -, -⟩ := pairs_lens h
  obtain ⟨b, cap2, rfl, -, -⟩ := pairs_lens g
  have hs : decide (xs = ys) = false := decide_eq_false fun e => hn (by rw [e])
  have hb : ((xs.length : Int) != (ys.length : Int)) = true := by rw [bne_iff_ne]; omega
  rw [hs]
  clear h g hn hs
  go_enter Tryz.func32, Tryz.ntmps32
  go_wp2
  go_ret
  exact ⟨rfl, rfl⟩
set_option maxHeartbeats 1000000 in
theorem eq_C {w : World} {v u : Value} {xs ys : CS} (h : Pairs w v xs) (g : Pairs w u ys) : Calls Tryz.prog 32 #[v, u] w fun e w' => e = .returned (.bool (decide (xs = ys))) ∧ Quiet w w' := by
  by_cases hl : xs.length = ys.length
  · obtain ⟨a, cap, hv, hc1, hc2⟩ := pairs_lens h
    obtain ⟨b, cap2, hu, -, -⟩ := pairs_lens g
    subst hv hu
    obtain ⟨n, hn⟩ : ∃ n, n = xs.length := ⟨_, rfl⟩
    obtain ⟨ans, hans⟩ : ∃ ans, ans = decide (xs = ys) := ⟨_, rfl⟩
    have hm : n ≤ 9223372036854775807 := by rw [hn]; exact Nat.le_trans hc1 hc2
    rw [← hl, ← hn, ← hans]
    have HN := Lib.hid hn
    have HL := Lib.hid hl
    have HA := Lib.hid hans
    have H := Lib.hid h
    have G := Lib.hid g
    clear hc1 hc2 hn hans hl h g
    go_enter Tryz.func32, Tryz.ntmps32
    go_wp2
    go_loopw [13] (fun i wr => ∃ k : Nat, k ≤ n ∧ i = .int .i64 k ∧ SamR (0, 0) xs ys k w wr) (fun i _ => n - (intOf i).toNat)
    case atStart => exact ⟨0, Nat.zero_le _, rfl, fun _ h => absurd h (by omega), 0, rfl⟩
    case round =>
      obtain ⟨k, hk, rfl, hsr⟩ := hrel
      obtain ⟨hsk, hq⟩ := hsr
      have HQ := Lib.hid hq
      by_cases hlt : (k : Int) < (n : Int)
      · have hkx : k < xs.length := by have := HN.out; omega
        have hky : k < ys.length := by have := HL.out; omega
        obtain ⟨b1, o1, p1, he1, hx1, hx2⟩ := pairs_at H.out hkx
        obtain ⟨b2, o2, p2, he2, hy1, hy2⟩ := pairs_at G.out hky
        injection he1 with e1 e2 e3
        subst e1
        injection he2 with e4 e5 e6
        subst e4
        have hx1 := cell_below hx1 hq.below
        have hx2 := cell_below hx2 hq.below
        have hy1 := cell_below hy1 hq.below
        have hy2 := cell_below hy2 hq.below
        have HS := Lib.hid hsk
        have HNO : Hid (xs.getD k (0, 0) ≠ ys.getD k (0, 0) → ans = false) := Lib.hid fun h => by rw [HA.out]; exact decide_eq_false fun e => h (by rw [e])
        have HYES : Hid (xs.getD k (0, 0) = ys.getD k (0, 0) → SameK (0, 0) xs ys (k + 1)) := Lib.hid fun h => HS.out.step h
        generalize xs.getD k (0, 0) = x at hx1 hx2 HNO HYES
        generalize ys.getD k (0, 0) = y at hy1 hy2 HNO HYES
        obtain ⟨x, x'⟩ := x
        obtain ⟨y, y'⟩ := y
        simp only at hx1 hx2 hy1 hy2
        clear e2 e3 e5 e6 hsk hq
        by_cases hxy : x = y ∧ x' = y'
        · obtain ⟨rfl, rfl⟩ := hxy
          have HY := Lib.hid (HYES.out rfl)
          have hb : ∀ W, (binOp .neq 64 (.agg #[.int .u64 x, .int .u64 x']) (.agg #[.int .u64 x, .int .u64 x'])).run Tryz.prog W = .ok (.bool false) W := fun W => by rw [neq_cell]; simp
          clear HYES HNO
          go_wp2
          go_quiet (fail)
          go_wp2
          go_roundw
          case rel => exact ⟨k + 1, by omega, by go_num, HY.out, by obtain ⟨m, hm⟩ := HQ.out; subst hm; exact ⟨_, World.drewN_drewN _ _ _⟩⟩
          case measure => simp [intOf]; omega
        · have HX := Lib.hid (HNO.out (fun e => hxy (by injection e with a b; exact ⟨a, b⟩)))
          have hb : ∀ W, (binOp .neq 64 (.agg #[.int .u64 x, .int .u64 x']) (.agg #[.int .u64 y, .int .u64 y'])).run Tryz.prog W = .ok (.bool true) W := fun W => by
            rw [neq_cell]
            by_cases h1 : x = y <;> by_cases h2 : x' = y' <;> simp [h1, h2]
            exact absurd ⟨h1, h2⟩ hxy
          clear HYES HNO hxy
          go_wp2
          go_quiet (fail)
          go_wp2
          go_ret
          refine ⟨by rw [HX.out]; rfl, ?_⟩
          obtain ⟨m, hm⟩ := HQ.out
          subst hm
          exact ⟨_, World.drewN_drewN _ _ _⟩
      · have hkn : k = n := by omega
        have HX : Hid (ans = true) := Lib.hid (by rw [HA.out]; exact decide_eq_true (ext_D (0, 0) HL.out (fun j hj => hsk j (by have := HN.out; omega))))
        clear hsk hq hkn
        go_wp2
        go_ret
        exact ⟨by rw [HX.out]; rfl, HQ.out⟩
  · exact (eq_C_len h g hl).mono fun e w' ⟨h1, h2⟩ => ⟨h1, 0, h2.symm⟩
end Go.Proofs.YtibinmabdidecaaGreatDoor
