/-
  The same truths, cells: package slices' Equal, the document's; plain.
-/
import Derived.Test.YtamgbfkpblpfiaaGreatDoorTrA
namespace Go.Proofs.YtamgbfkpblpfiaaGreatDoor
open Go.ChangeShapes Go.WideShapes Go.ChangeAt Go.RowKit
set_option linter.unusedVariables false
theorem ext_D {α : Type} (d : α) {xs ys : List α} (hl : xs.length = ys.length) (h : ∀ j, j < xs.length → xs.getD j d = ys.getD j d) : xs = ys := by
  apply List.ext_getElem hl
  intro i h1 h2
  have := h i h1
  simpa [List.getD, h1, h2] using this
/-- Before round k of a comparison. -/
def SameK {α : Type} (d : α) (xs ys : List α) (k : Nat) : Prop := ∀ j, j < k → xs.getD j d = ys.getD j d
theorem SameK.step {α : Type} {d : α} {xs ys : List α} {k : Nat} (h : SameK d xs ys k) (he : xs.getD k d = ys.getD k d) : SameK d xs ys (k + 1) := fun j hj => by
  rcases Nat.lt_or_ge j k with h1 | h1
  · exact h j h1
  · rw [show j = k by omega]; exact he
def SamR {α : Type} (d : α) (xs ys : List α) (k : Nat) (w wr : World) : Prop := SameK d xs ys k ∧ Quiet w wr
theorem r10_Same_len {w : World} {v u : Value} {xs ys : List (Bool)} (h : Seq w 1 BoR false v xs) (g : Seq w 1 BoR false u ys) (hn : xs.length ≠ ys.length) : Calls Tryz.prog 67 #[v, u] w fun e w' => e = .returned (.bool (decide (xs = ys))) ∧ w = w' := by
  obtain ⟨a, cap, rfl, -, -⟩ := h.form
  obtain ⟨b, cap2, rfl, -, -⟩ := g.form
  have hs : decide (xs = ys) = false := decide_eq_false fun e => hn (by rw [e])
  have hb : ((xs.length : Int) != (ys.length : Int)) = true := by rw [bne_iff_ne]; omega
  rw [hs]
  clear h g hn hs
  go_enter Tryz.func67, Tryz.ntmps67
  go_wp2
  go_ret
  exact ⟨rfl, rfl⟩
set_option maxHeartbeats 1000000 in
theorem r10_Same {w : World} {v u : Value} {xs ys : List (Bool)} (h : Seq w 1 BoR false v xs) (g : Seq w 1 BoR false u ys) : Calls Tryz.prog 67 #[v, u] w fun e w' => e = .returned (.bool (decide (xs = ys))) ∧ Quiet w w' := by
  by_cases hl : xs.length = ys.length
  · obtain ⟨a, cap, hv, hc1, hc2⟩ := h.form
    obtain ⟨b, cap2, hu, -, -⟩ := g.form
    subst hv hu
    obtain ⟨n, hn⟩ : ∃ n, n = xs.length := ⟨_, rfl⟩
    obtain ⟨ans, hans⟩ : ∃ ans, ans = decide (xs = ys) := ⟨_, rfl⟩
    have hm : n ≤ 9223372036854775807 := by rw [hn]; exact Nat.le_trans hc1 hc2
    rw [← hl, ← hn, ← hans]
    have HN := Lib.hid hn
    have HL := Lib.hid hl
    have HA := Lib.hid hans
    have H := Lib.hid h
    have G := Lib.hid g
    clear hc1 hc2 hn hans hl h g
    go_enter Tryz.func67, Tryz.ntmps67
    go_wp2
    go_loopw [5] (fun i wr => ∃ k : Nat, k ≤ n ∧ i = .int .i64 k ∧ SamR false xs ys k w wr) (fun i _ => n - (intOf i).toNat)
    case atStart => exact ⟨0, Nat.zero_le _, rfl, fun _ h => absurd h (by omega), 0, rfl⟩
    case round =>
      obtain ⟨k, hk, rfl, hsr⟩ := hrel
      obtain ⟨hsk, hq⟩ := hsr
      have HQ := Lib.hid hq
      by_cases hlt : (k : Int) < (n : Int)
      · have hkx : k < xs.length := by have := HN.out; omega
        have hky : k < ys.length := by have := HL.out; omega
        obtain ⟨b1, o1, p1, he1, hx⟩ := H.out.at_ hkx
        obtain ⟨b2, o2, p2, he2, hy⟩ := G.out.at_ hky
        injection he1 with e1 e2 e3
        subst e1
        injection he2 with e4 e5 e6
        subst e4
        have hx := stays_bo hx hq.below
        have hy := stays_bo hy hq.below
        have HS := Lib.hid hsk
        have HNO : Hid (xs.getD k false ≠ ys.getD k false → ans = false) := Lib.hid fun h => by rw [HA.out]; exact decide_eq_false fun e => h (by rw [e])
        have HYES : Hid (xs.getD k false = ys.getD k false → SameK false xs ys (k + 1)) := Lib.hid fun h => HS.out.step h
        unfold BoR at hx hy
        rw [Nat.mul_one] at hx hy
        generalize xs.getD k false = x at hx hy HNO HYES
        generalize ys.getD k false = y at hx hy HNO HYES
        clear e2 e3 e5 e6 hsk hq
        by_cases hxy : x = y
        · subst hxy
          have HY := Lib.hid (HYES.out rfl)
          have hb : (x != x) = false := by simp
          clear HYES HNO
          go_wp2
          go_quiet (fail)
          go_wp2
          go_roundw
          case rel => exact ⟨k + 1, by omega, by go_num, HY.out, by obtain ⟨m, hm⟩ := HQ.out; subst hm; exact ⟨_, World.drewN_drewN _ _ _⟩⟩
          case measure => simp [intOf]; omega
        · have HX := Lib.hid (HNO.out hxy)
          clear HYES HNO
          cases x <;> cases y
          all_goals first
            | exact absurd rfl hxy
            | skip
          all_goals
            clear hxy
            go_wp2
            go_quiet (fail)
            go_wp2
            go_ret
            refine ⟨by rw [HX.out]; rfl, ?_⟩
            obtain ⟨m, hm⟩ := HQ.out
            subst hm
            exact ⟨_, World.drewN_drewN _ _ _⟩
      · have hkn : k = n := by omega
        have HX : Hid (ans = true) := Lib.hid (by rw [HA.out]; exact decide_eq_true (ext_D false HL.out (fun j hj => hsk j (by have := HN.out; omega))))
        clear hsk hq hkn
        go_wp2
        go_ret
        exact ⟨by rw [HX.out]; rfl, HQ.out⟩
  · exact (r10_Same_len h g hl).mono fun e w' ⟨h1, h2⟩ => ⟨h1, 0, h2.symm⟩
theorem eq_B_len {w : World} {v u : Value} {xs ys : List (Bool)} (h : Seq w 1 BoR false v xs) (g : Seq w 1 BoR false u ys) (hn : xs.length ≠ ys.length) : Calls Tryz.prog 74 #[v, u] w fun e w' => e = .returned (.bool (decide (xs = ys))) ∧ w = w' := by
  obtain ⟨a, cap, rfl, -, -⟩ := h.form
  obtain ⟨b, cap2, rfl, -, -⟩ := g.form
  have hs : decide (xs = ys) = false := decide_eq_false fun e => hn (by rw [e])
  have hb : ((xs.length : Int) != (ys.length : Int)) = true := by rw [bne_iff_ne]; omega
  rw [hs]
  clear h g hn hs
  go_enter Tryz.func74, Tryz.ntmps74
  go_wp2
  go_ret
  exact ⟨rfl, rfl⟩
set_option maxHeartbeats 1000000 in
theorem eq_B {w : World} {v u : Value} {xs ys : List (Bool)} (h : Seq w 1 BoR false v xs) (g : Seq w 1 BoR false u ys) : Calls Tryz.prog 74 #[v, u] w fun e w' => e = .returned (.bool (decide (xs = ys))) ∧ Quiet w w' := by
  by_cases hl : xs.length = ys.length
  · obtain ⟨a, cap, hv, hc1, hc2⟩ := h.form
    obtain ⟨b, cap2, hu, -, -⟩ := g.form
    subst hv hu
    obtain ⟨n, hn⟩ : ∃ n, n = xs.length := ⟨_, rfl⟩
    obtain ⟨ans, hans⟩ : ∃ ans, ans = decide (xs = ys) := ⟨_, rfl⟩
    have hm : n ≤ 9223372036854775807 := by rw [hn]; exact Nat.le_trans hc1 hc2
    rw [← hl, ← hn, ← hans]
    have HN := Lib.hid hn
    have HL := Lib.hid hl
    have HA := Lib.hid hans
    have H := Lib.hid h
    have G := Lib.hid g
    clear hc1 hc2 hn hans hl h g
    go_enter Tryz.func74, Tryz.ntmps74
    go_wp2
    go_loopw [13] (fun i wr => ∃ k : Nat, k ≤ n ∧ i = .int .i64 k ∧ SamR false xs ys k w wr) (fun i _ => n - (intOf i).toNat)
    case atStart => exact ⟨0, Nat.zero_le _, rfl, fun _ h => absurd h (by omega), 0, rfl⟩
    case round =>
      obtain ⟨k, hk, rfl, hsr⟩ := hrel
      obtain ⟨hsk, hq⟩ := hsr
      have HQ := Lib.hid hq
      by_cases hlt : (k : Int) < (n : Int)
      · have hkx : k < xs.length := by have := HN.out; omega
        have hky : k < ys.length := by have := HL.out; omega
        obtain ⟨b1, o1, p1, he1, hx⟩ := H.out.at_ hkx
        obtain ⟨b2, o2, p2, he2, hy⟩ := G.out.at_ hky
        injection he1 with e1 e2 e3
        subst e1
        injection he2 with e4 e5 e6
        subst e4
        have hx := stays_bo hx hq.below
        have hy := stays_bo hy hq.below
        have HS := Lib.hid hsk
        have HNO : Hid (xs.getD k false ≠ ys.getD k false → ans = false) := Lib.hid fun h => by rw [HA.out]; exact decide_eq_false fun e => h (by rw [e])
        have HYES : Hid (xs.getD k false = ys.getD k false → SameK false xs ys (k + 1)) := Lib.hid fun h => HS.out.step h
        unfold BoR at hx hy
        rw [Nat.mul_one] at hx hy
        generalize xs.getD k false = x at hx hy HNO HYES
        generalize ys.getD k false = y at hx hy HNO HYES
        clear e2 e3 e5 e6 hsk hq
        by_cases hxy : x = y
        · subst hxy
          have HY := Lib.hid (HYES.out rfl)
          have hb : (x != x) = false := by simp
          clear HYES HNO
          go_wp2
          go_quiet (fail)
          go_wp2
          go_roundw
          case rel => exact ⟨k + 1, by omega, by go_num, HY.out, by obtain ⟨m, hm⟩ := HQ.out; subst hm; exact ⟨_, World.drewN_drewN _ _ _⟩⟩
          case measure => simp [intOf]; omega
        · have HX := Lib.hid (HNO.out hxy)
          clear HYES HNO
          cases x <;> cases y
          all_goals first
            | exact absurd rfl hxy
            | skip
          all_goals
            clear hxy
            go_wp2
            go_quiet (fail)
            go_wp2
            go_ret
            refine ⟨by rw [HX.out]; rfl, ?_⟩
            obtain ⟨m, hm⟩ := HQ.out
            subst hm
            exact ⟨_, World.drewN_drewN _ _ _⟩
      · have hkn : k = n := by omega
        have HX : Hid (ans = true) := Lib.hid (by rw [HA.out]; exact decide_eq_true (ext_D false HL.out (fun j hj => hsk j (by have := HN.out; omega))))
        clear hsk hq hkn
        go_wp2
        go_ret
        exact ⟨by rw [HX.out]; rfl, HQ.out⟩
  · exact (eq_B_len h g hl).mono fun e w' ⟨h1, h2⟩ => ⟨h1, 0, h2.symm⟩
theorem neq_cell (x x' y y' : Int) (W : World) : (binOp .neq 121 (.agg #[.int .u64 x, .int .u64 x']) (.agg #[.int .u64 y, .int .u64 y'])).run Tryz.prog W = .ok (.bool (!((x == y) && (x' == y')))) W := by
  rw [run_neq_struct, run_equalIn_agg (P := Tryz.prog) W 9999 121 _ _ (by kernel_rfl) (by kernel_rfl)]
  go_simp
  by_cases h1 : x = y <;> by_cases h2 : x' = y' <;> simp [h1, h2]
theorem pairs_lens {w : World} {v : Value} {xs : CS} (h : Pairs w v xs) : ∃ a cap, v = .slice a xs.length cap ∧ xs.length ≤ cap ∧ cap ≤ maxLen := by
  obtain ⟨a, cap, h1, h2, h3, -⟩ := h; exact ⟨a, cap, h1, h2, h3⟩
theorem pairs_at {w : World} {v : Value} {xs : CS} (h : Pairs w v xs) {k : Nat} (hk : k < xs.length) : ∃ b off cap, v = .slice (some ⟨b, off, none⟩) xs.length cap ∧ w.cell? ⟨b, off + k * 2, none⟩ = some (.int .u64 (xs.getD k (0, 0)).1) ∧ w.cell? ⟨b, off + k * 2 + 1, none⟩ = some (.int .u64 (xs.getD k (0, 0)).2) := by
  obtain ⟨a, cap, rfl, -, -, -, hv⟩ := h
  have hne : xs ≠ [] := fun e => by rw [e] at hk; simp at hk
  obtain ⟨b, off, rfl, -, hc⟩ := hv.resolve_left hne
  exact ⟨b, off, cap, rfl, hc k hk⟩
theorem eq_C_len {w : World} {v u : Value} {xs ys : CS} (h : Pairs w v xs) (g : Pairs w u ys) (hn : xs.length ≠ ys.length) : Calls Tryz.prog 77 #[v, u] w fun e w' => e = .returned (.bool (decide (xs = ys))) ∧ w = w' := by
  obtain ⟨a, cap, rfl, -, -⟩ := pairs_lens h
  obtain ⟨b, cap2, rfl, -, -⟩ := pairs_lens g
  have hs : decide (xs = ys) = false := decide_eq_false fun e => hn (by rw [e])
  have hb : ((xs.length : Int) != (ys.length : Int)) = true := by rw [bne_iff_ne]; omega
  rw [hs]
  clear h g hn hs
  go_enter Tryz.func77, Tryz.ntmps77
  go_wp2
  go_ret
  exact ⟨rfl, rfl⟩
set_option maxHeartbeats 1000000 in
theorem eq_C {w : World} {v u : Value} {xs ys : CS} (h : Pairs w v xs) (g : Pairs w u ys) : Calls Tryz.prog 77 #[v, u] w fun e w' => e = .returned (.bool (decide (xs = ys))) ∧ Quiet w w' := by
  by_cases hl : xs.length = ys.length
  · obtain ⟨a, cap, hv, hc1, hc2⟩ := pairs_lens h
    obtain ⟨b, cap2, hu, -, -⟩ := pairs_lens g
    subst hv hu
    obtain ⟨n, hn⟩ : ∃ n, n = xs.length := ⟨_, rfl⟩
    obtain ⟨ans, hans⟩ : ∃ ans, ans = decide (xs = ys) := ⟨_, rfl⟩
    have hm : n ≤ 9223372036854775807 := by rw [hn]; exact Nat.le_trans hc1 hc2
    rw [← hl, ← hn, ← hans]
    have HN := Lib.hid hn
    have HL := Lib.hid hl
    have HA := Lib.hid hans
    have H := Lib.hid h
    have G := Lib.hid g
    clear hc1 hc2 hn hans hl h g
    go_enter Tryz.func77, Tryz.ntmps77
    go_wp2
    go_loopw [13] (fun i wr => ∃ k : Nat, k ≤ n ∧ i = .int .i64 k ∧ SamR (0, 0) xs ys k w wr) (fun i _ => n - (intOf i).toNat)
    case atStart => exact ⟨0, Nat.zero_le _, rfl, fun _ h => absurd h (by omega), 0, rfl⟩
    case round =>
      obtain ⟨k, hk, rfl, hsr⟩ := hrel
      obtain ⟨hsk, hq⟩ := hsr
      have HQ := Lib.hid hq
      by_cases hlt : (k : Int) < (n : Int)
      · have hkx : k < xs.length := by have := HN.out; omega
        have hky : k < ys.length := by have := HL.out; omega
        obtain ⟨b1, o1, p1, he1, hx1, hx2⟩ := pairs_at H.out hkx
        obtain ⟨b2, o2, p2, he2, hy1, hy2⟩ := pairs_at G.out hky
        injection he1 with e1 e2 e3
        subst e1
        injection he2 with e4 e5 e6
        subst e4
        have hx1 := cell_below hx1 hq.below
        have hx2 := cell_below hx2 hq.below
        have hy1 := cell_below hy1 hq.below
        have hy2 := cell_below hy2 hq.below
        have HS := Lib.hid hsk
        have HNO : Hid (xs.getD k (0, 0) ≠ ys.getD k (0, 0) → ans = false) := Lib.hid fun h => by rw [HA.out]; exact decide_eq_false fun e => h (by rw [e])
        have HYES : Hid (xs.getD k (0, 0) = ys.getD k (0, 0) → SameK (0, 0) xs ys (k + 1)) := Lib.hid fun h => HS.out.step h
        generalize xs.getD k (0, 0) = x at hx1 hx2 HNO HYES
        generalize ys.getD k (0, 0) = y at hy1 hy2 HNO HYES
        obtain ⟨x, x'⟩ := x
        obtain ⟨y, y'⟩ := y
        simp only at hx1 hx2 hy1 hy2
        clear e2 e3 e5 e6 hsk hq
        by_cases hxy : x = y ∧ x' = y'
        · obtain ⟨rfl, rfl⟩ := hxy
          have HY := Lib.hid (HYES.out rfl)
          have hb : ∀ W, (binOp .neq 121 (.agg #[.int .u64 x, .int .u64 x']) (.agg #[.int .u64 x, .int .u64 x'])).run Tryz.prog W = .ok (.bool false) W := fun W => by rw [neq_cell]; simp
          clear HYES HNO
          go_wp2
          go_quiet (fail)
          go_wp2
          go_roundw
          case rel => exact ⟨k + 1, by omega, by go_num, HY.out, by obtain ⟨m, hm⟩ := HQ.out; subst hm; exact ⟨_, World.drewN_drewN _ _ _⟩⟩
          case measure => simp [intOf]; omega
        · have HX := Lib.hid (HNO.out (fun e => hxy (by injection e with a b; exact ⟨a, b⟩)))
          have hb : ∀ W, (binOp .neq 121 (.agg #[.int .u64 x, .int .u64 x']) (.agg #[.int .u64 y, .int .u64 y'])).run Tryz.prog W = .ok (.bool true) W := fun W => by
            rw [neq_cell]
            by_cases h1 : x = y <;> by_cases h2 : x' = y' <;> simp [h1, h2]
            exact absurd ⟨h1, h2⟩ hxy
          clear HYES HNO hxy
          go_wp2
          go_quiet (fail)
          go_wp2
          go_ret
          refine ⟨by rw [HX.out]; rfl, ?_⟩
          obtain ⟨m, hm⟩ := HQ.out
          subst hm
          exact ⟨_, World.drewN_drewN _ _ _⟩
      · have hkn : k = n := by omega
        have HX : Hid (ans = true) := Lib.hid (by rw [HA.out]; exact decide_eq_true (ext_D (0, 0) HL.out (fun j hj => hsk j (by have := HN.out; omega))))
        clear hsk hq hkn
        go_wp2
        go_ret
        exact ⟨by rw [HX.out]; rfl, HQ.out⟩
  · exact (eq_C_len h g hl).mono fun e w' ⟨h1, h2⟩ => ⟨h1, 0, h2.symm⟩
end Go.Proofs.YtamgbfkpblpfiaaGreatDoor
/-
  slices.EqualFunc at the lists of a witness; package trace's Same.
-/
namespace Go.Proofs.YtamgbfkpblpfiaaGreatDoor
open Go.ChangeShapes Go.WideShapes Go.ChangeAt Go.RowKit
set_option linter.unusedVariables false
theorem clCC {w : World} {v u : Value} {xs ys : CS} (h : Pairs w v xs) (g : Pairs w u ys) : Calls Tryz.prog 76 #[v, u] w fun e w' => e = .returned (.bool (decide (xs = ys))) ∧ Quiet w w' := by
  have HE := Lib.hid (eq_C h g)
  generalize decide (xs = ys) = ans at *
  clear h g
  go_enter Tryz.func76, Tryz.ntmps76
  go_wp2_with fail
  refine HE.out.mono ?_
  rintro e w1 ⟨rfl, hq⟩
  go_wp2
  go_ret
  exact ⟨rfl, hq⟩
theorem eqfCC_len {w : World} {v u : Value} {xs ys : List (CS)} (h : Seq w 1 CesR [] v xs) (g : Seq w 1 CesR [] u ys) (hn : xs.length ≠ ys.length) : Calls Tryz.prog 75 #[v, u, .func (.func 76) #[] #[]] w fun e w' => e = .returned (.bool (decide (xs = ys))) ∧ w = w' := by
  obtain ⟨a, cap, rfl, -, -⟩ := h.form
  obtain ⟨b, cap2, rfl, -, -⟩ := g.form
  have hs : decide (xs = ys) = false := decide_eq_false fun e => hn (by rw [e])
  have hb : ((xs.length : Int) != (ys.length : Int)) = true := by rw [bne_iff_ne]; omega
  rw [hs]
  clear h g hn hs
  go_enter Tryz.func75, Tryz.ntmps75
  go_wp2
  go_ret
  exact ⟨rfl, rfl⟩
set_option maxHeartbeats 1000000 in
theorem eqfCC {w : World} {v u : Value} {xs ys : List (CS)} (h : Seq w 1 CesR [] v xs) (g : Seq w 1 CesR [] u ys) : Calls Tryz.prog 75 #[v, u, .func (.func 76) #[] #[]] w fun e w' => e = .returned (.bool (decide (xs = ys))) ∧ Quiet w w' := by
  by_cases hl : xs.length = ys.length
  · obtain ⟨a, cap, hv, hc1, hc2⟩ := h.form
    obtain ⟨b, cap2, hu, -, -⟩ := g.form
    subst hv hu
    obtain ⟨n, hn⟩ : ∃ n, n = xs.length := ⟨_, rfl⟩
    obtain ⟨ans, hans⟩ : ∃ ans, ans = decide (xs = ys) := ⟨_, rfl⟩
    have hm : n ≤ 9223372036854775807 := by rw [hn]; exact Nat.le_trans hc1 hc2
    rw [← hl, ← hn, ← hans]
    have HN := Lib.hid hn
    have HL := Lib.hid hl
    have HA := Lib.hid hans
    have H := Lib.hid h
    have G := Lib.hid g
    have eg : ∀ args w, (callFunc 76 args).run Tryz.prog w = .ok (.enter 76 args) w := enters_of Tryz.func76 (by kernel_rfl) rfl
    clear hc1 hc2 hn hans hl h g
    go_enter Tryz.func75, Tryz.ntmps75
    go_wp2
    go_loopw [17] (fun i wr => ∃ k : Nat, k ≤ n ∧ i = .int .i64 k ∧ SamR [] xs ys k w wr) (fun i _ => n - (intOf i).toNat)
    case atStart => exact ⟨0, Nat.zero_le _, rfl, fun _ h => absurd h (by omega), 0, rfl⟩
    case round =>
      obtain ⟨k, hk, rfl, hsr⟩ := hrel
      obtain ⟨hsk, hq⟩ := hsr
      have HQ := Lib.hid hq
      by_cases hlt : (k : Int) < (n : Int)
      · have hkx : k < xs.length := by have := HN.out; omega
        have hky : k < ys.length := by have := HL.out; omega
        obtain ⟨b1, o1, p1, he1, z1, hx, hp1⟩ := H.out.at_ hkx
        obtain ⟨b2, o2, p2, he2, z2, hy, hp2⟩ := G.out.at_ hky
        injection he1 with e1 e2 e3
        subst e1
        injection he2 with e4 e5 e6
        subst e4
        have hx := cell_below hx hq.below
        have hy := cell_below hy hq.below
        have hp1 := hp1.below hq.below
        have hp2 := hp2.below hq.below
        rw [Nat.mul_one] at hx hy
        have HC := Lib.hid (clCC hp1 hp2)
        have HS := Lib.hid hsk
        have HNO : Hid (xs.getD k [] ≠ ys.getD k [] → ans = false) := Lib.hid fun h => by rw [HA.out]; exact decide_eq_false fun e => h (by rw [e])
        have HYES : Hid (xs.getD k [] = ys.getD k [] → SameK [] xs ys (k + 1)) := Lib.hid fun h => HS.out.step h
        clear e2 e3 e5 e6 hsk hq hp1 hp2
        generalize xs.getD k [] = x at *
        generalize ys.getD k [] = y at *
        by_cases hxy : x = y
        · have HY := Lib.hid (HYES.out hxy)
          rw [decide_eq_true hxy] at HC
          clear HYES HNO hxy
          go_wp2_with fail
          refine HC.out.mono ?_
          rintro e w1 ⟨rfl, hq1⟩
          have HQ1 : Hid (Quiet w w1) := Lib.hid (by
            obtain ⟨m, rfl⟩ := HQ.out
            obtain ⟨m', rfl⟩ := hq1
            exact ⟨_, World.drewN_drewN _ _ _⟩)
          clear hq1
          go_wp2
          go_roundw
          case rel => exact ⟨k + 1, by omega, by go_num, HY.out, HQ1.out⟩
          case measure => simp [intOf]; omega
        · have HX := Lib.hid (HNO.out hxy)
          rw [decide_eq_false hxy] at HC
          clear HYES HNO hxy
          go_wp2_with fail
          refine HC.out.mono ?_
          rintro e w1 ⟨rfl, hq1⟩
          have HQ1 : Hid (Quiet w w1) := Lib.hid (by
            obtain ⟨m, rfl⟩ := HQ.out
            obtain ⟨m', rfl⟩ := hq1
            exact ⟨_, World.drewN_drewN _ _ _⟩)
          clear hq1
          go_wp2
          go_ret
          exact ⟨by rw [HX.out]; rfl, HQ1.out⟩
      · have hkn : k = n := by omega
        have HX : Hid (ans = true) := Lib.hid (by rw [HA.out]; exact decide_eq_true (ext_D [] HL.out (fun j hj => hsk j (by have := HN.out; omega))))
        clear hsk hq hkn
        go_wp2
        go_ret
        exact ⟨by rw [HX.out]; rfl, HQ.out⟩
  · exact (eqfCC_len h g hl).mono fun e w' ⟨h1, h2⟩ => ⟨h1, 0, h2.symm⟩
theorem clBB {w : World} {v u : Value} {xs ys : List Bool} (h : Bo w v xs) (g : Bo w u ys) : Calls Tryz.prog 79 #[v, u] w fun e w' => e = .returned (.bool (decide (xs = ys))) ∧ Quiet w w' := by
  have HE := Lib.hid (eq_B h g)
  generalize decide (xs = ys) = ans at *
  clear h g
  go_enter Tryz.func79, Tryz.ntmps79
  go_wp2_with fail
  refine HE.out.mono ?_
  rintro e w1 ⟨rfl, hq⟩
  go_wp2
  go_ret
  exact ⟨rfl, hq⟩
theorem eqfBB_len {w : World} {v u : Value} {xs ys : List (List Bool)} (h : Seq w 1 BosR [] v xs) (g : Seq w 1 BosR [] u ys) (hn : xs.length ≠ ys.length) : Calls Tryz.prog 78 #[v, u, .func (.func 79) #[] #[]] w fun e w' => e = .returned (.bool (decide (xs = ys))) ∧ w = w' := by
  obtain ⟨a, cap, rfl, -, -⟩ := h.form
  obtain ⟨b, cap2, rfl, -, -⟩ := g.form
  have hs : decide (xs = ys) = false := decide_eq_false fun e => hn (by rw [e])
  have hb : ((xs.length : Int) != (ys.length : Int)) = true := by rw [bne_iff_ne]; omega
  rw [hs]
  clear h g hn hs
  go_enter Tryz.func78, Tryz.ntmps78
  go_wp2
  go_ret
  exact ⟨rfl, rfl⟩
set_option maxHeartbeats 1000000 in
theorem eqfBB {w : World} {v u : Value} {xs ys : List (List Bool)} (h : Seq w 1 BosR [] v xs) (g : Seq w 1 BosR [] u ys) : Calls Tryz.prog 78 #[v, u, .func (.func 79) #[] #[]] w fun e w' => e = .returned (.bool (decide (xs = ys))) ∧ Quiet w w' := by
  by_cases hl : xs.length = ys.length
  · obtain ⟨a, cap, hv, hc1, hc2⟩ := h.form
    obtain ⟨b, cap2, hu, -, -⟩ := g.form
    subst hv hu
    obtain ⟨n, hn⟩ : ∃ n, n = xs.length := ⟨_, rfl⟩
    obtain ⟨ans, hans⟩ : ∃ ans, ans = decide (xs = ys) := ⟨_, rfl⟩
    have hm : n ≤ 9223372036854775807 := by rw [hn]; exact Nat.le_trans hc1 hc2
    rw [← hl, ← hn, ← hans]
    have HN := Lib.hid hn
    have HL := Lib.hid hl
    have HA := Lib.hid hans
    have H := Lib.hid h
    have G := Lib.hid g
    have eg : ∀ args w, (callFunc 79 args).run Tryz.prog w = .ok (.enter 79 args) w := enters_of Tryz.func79 (by kernel_rfl) rfl
    clear hc1 hc2 hn hans hl h g
    go_enter Tryz.func78, Tryz.ntmps78
    go_wp2
    go_loopw [17] (fun i wr => ∃ k : Nat, k ≤ n ∧ i = .int .i64 k ∧ SamR [] xs ys k w wr) (fun i _ => n - (intOf i).toNat)
    case atStart => exact ⟨0, Nat.zero_le _, rfl, fun _ h => absurd h (by omega), 0, rfl⟩
    case round =>
      obtain ⟨k, hk, rfl, hsr⟩ := hrel
      obtain ⟨hsk, hq⟩ := hsr
      have HQ := Lib.hid hq
      by_cases hlt : (k : Int) < (n : Int)
      · have hkx : k < xs.length := by have := HN.out; omega
        have hky : k < ys.length := by have := HL.out; omega
        obtain ⟨b1, o1, p1, he1, z1, hx, hp1⟩ := H.out.at_ hkx
        obtain ⟨b2, o2, p2, he2, z2, hy, hp2⟩ := G.out.at_ hky
        injection he1 with e1 e2 e3
        subst e1
        injection he2 with e4 e5 e6
        subst e4
        have hx := cell_below hx hq.below
        have hy := cell_below hy hq.below
        have hp1 : Bo wr z1 (xs.getD k []) := hp1.below stays_bo hq.below
        have hp2 : Bo wr z2 (ys.getD k []) := hp2.below stays_bo hq.below
        rw [Nat.mul_one] at hx hy
        have HC := Lib.hid (clBB hp1 hp2)
        have HS := Lib.hid hsk
        have HNO : Hid (xs.getD k [] ≠ ys.getD k [] → ans = false) := Lib.hid fun h => by rw [HA.out]; exact decide_eq_false fun e => h (by rw [e])
        have HYES : Hid (xs.getD k [] = ys.getD k [] → SameK [] xs ys (k + 1)) := Lib.hid fun h => HS.out.step h
        clear e2 e3 e5 e6 hsk hq hp1 hp2
        generalize xs.getD k [] = x at *
        generalize ys.getD k [] = y at *
        by_cases hxy : x = y
        · have HY := Lib.hid (HYES.out hxy)
          rw [decide_eq_true hxy] at HC
          clear HYES HNO hxy
          go_wp2_with fail
          refine HC.out.mono ?_
          rintro e w1 ⟨rfl, hq1⟩
          have HQ1 : Hid (Quiet w w1) := Lib.hid (by
            obtain ⟨m, rfl⟩ := HQ.out
            obtain ⟨m', rfl⟩ := hq1
            exact ⟨_, World.drewN_drewN _ _ _⟩)
          clear hq1
          go_wp2
          go_roundw
          case rel => exact ⟨k + 1, by omega, by go_num, HY.out, HQ1.out⟩
          case measure => simp [intOf]; omega
        · have HX := Lib.hid (HNO.out hxy)
          rw [decide_eq_false hxy] at HC
          clear HYES HNO hxy
          go_wp2_with fail
          refine HC.out.mono ?_
          rintro e w1 ⟨rfl, hq1⟩
          have HQ1 : Hid (Quiet w w1) := Lib.hid (by
            obtain ⟨m, rfl⟩ := HQ.out
            obtain ⟨m', rfl⟩ := hq1
            exact ⟨_, World.drewN_drewN _ _ _⟩)
          clear hq1
          go_wp2
          go_ret
          exact ⟨by rw [HX.out]; rfl, HQ1.out⟩
      · have hkn : k = n := by omega
        have HX : Hid (ans = true) := Lib.hid (by rw [HA.out]; exact decide_eq_true (ext_D [] HL.out (fun j hj => hsk j (by have := HN.out; omega))))
        clear hsk hq hkn
        go_wp2
        go_ret
        exact ⟨by rw [HX.out]; rfl, HQ.out⟩
  · exact (eqfBB_len h g hl).mono fun e w' ⟨h1, h2⟩ => ⟨h1, 0, h2.symm⟩
theorem Quiet.refl (w : World) : Quiet w w := ⟨0, rfl⟩
theorem Quiet.trans {a b c : World} (h : Quiet a b) (g : Quiet b c) : Quiet a c := by
  obtain ⟨n, rfl⟩ := h
  obtain ⟨m, rfl⟩ := g
  exact ⟨_, World.drewN_drewN _ _ _⟩
def sameT (d e : TrD) : Bool := decide (d.bad = e.bad ∧ d.lat = e.lat ∧ d.mems = e.mems ∧ d.ins = e.ins)
set_option maxHeartbeats 2000000 in
theorem trace_Same {w : World} {d e : TrD} {vl vm vi ul um ui : Value} (h : TrP w d vl vm vi) (g : TrP w e ul um ui) : Calls Tryz.prog 37 #[trV d vl vm vi, trV e ul um ui] w fun e' w' => e' = .returned (.bool (sameT d e)) ∧ Below w.heap.size w w' := by
  have HB0 : Hid (∀ x y, Below w.heap.size w ((w.alloc x).alloc y)) := Lib.hid fun x y => ((Below.refl _ _).alloc (Nat.le_refl _) _).alloc (by simp) _
  have E1 := Lib.hid (fun w' (hb : Below w.heap.size w w') => eq_B (h.lat.below stays_bo hb) (g.lat.below stays_bo hb))
  have E2 := Lib.hid (fun w' (hb : Below w.heap.size w w') => eqfCC (h.mems.below stays_ces hb) (g.mems.below stays_ces hb))
  have E3 := Lib.hid (fun w' (hb : Below w.heap.size w w') => eqfBB (h.ins.below stays_bos hb) (g.ins.below stays_bos hb))
  have HS : Hid (sameT d e = (decide (d.bad = e.bad) && (decide (d.lat = e.lat) && (decide (d.mems = e.mems) && decide (d.ins = e.ins))))) := Lib.hid (by unfold sameT; simp only [Bool.decide_and])
  obtain ⟨ans, hans⟩ : ∃ ans, ans = sameT d e := ⟨_, rfl⟩
  rw [← hans] at HS ⊢
  obtain ⟨a1, c1, rfl⟩ := h.lat.len
  obtain ⟨a2, c2, rfl, -, -⟩ := h.mems.form
  obtain ⟨a3, c3, rfl, -, -⟩ := h.ins.form
  obtain ⟨a4, c4, rfl⟩ := g.lat.len
  obtain ⟨a5, c5, rfl, -, -⟩ := g.mems.form
  obtain ⟨a6, c6, rfl, -, -⟩ := g.ins.form
  unfold trV
  obtain ⟨d1, d2, d3, d4⟩ := d
  obtain ⟨f1, f2, f3, f4⟩ := e
  simp only at *
  clear h g hans
  generalize decide (d1 = f1) = r1 at *
  generalize decide (d2 = f2) = r2 at *
  generalize decide (d3 = f3) = r3 at *
  generalize d1.length = n1 at *
  generalize d2.length = n2 at *
  generalize d3.length = n3 at *
  generalize f1.length = m1 at *
  generalize f2.length = m2 at *
  generalize f3.length = m3 at *
  have K : Hid (∀ W, Quiet ((w.alloc (.cells #[.slice a1 n1 c1, .slice a2 n2 c2, .slice a3 n3 c3, .int .i64 d4] 30)).alloc (.cells #[.slice a4 m1 c4, .slice a5 m2 c5, .slice a6 m3 c6, .int .i64 f4] 30)) W → W.cell? ⟨w.heap.size, 1, none⟩ = some (.slice a2 n2 c2) ∧ W.cell? ⟨w.heap.size, 2, none⟩ = some (.slice a3 n3 c3) ∧ W.cell? ⟨w.heap.size + 1, 1, none⟩ = some (.slice a5 m2 c5) ∧ W.cell? ⟨w.heap.size + 1, 2, none⟩ = some (.slice a6 m3 c6)) := Lib.hid (by
    rintro W ⟨n, rfl⟩
    have q1 := (Blk.new w 30 #[.slice a1 n1 c1, .slice a2 n2 c2, .slice a3 n3 c3, .int .i64 d4]).alloc (.cells #[.slice a4 m1 c4, .slice a5 m2 c5, .slice a6 m3 c6, .int .i64 f4] 30)
    have q2 := Blk.new (w.alloc (.cells #[.slice a1 n1 c1, .slice a2 n2 c2, .slice a3 n3 c3, .int .i64 d4] 30)) 30 #[.slice a4 m1 c4, .slice a5 m2 c5, .slice a6 m3 c6, .int .i64 f4]
    have q3 := q2.cell 1
    have q4 := q2.cell 2
    simp only [World.size_alloc] at q3 q4
    exact ⟨q1.cell 1, q1.cell 2, q3, q4⟩)
  by_cases hb : d4 = f4
  · have hbb : (d4 == f4) = true := by rw [beq_iff_eq]; exact hb
    rw [decide_eq_true hb, Bool.true_and] at HS
    clear hb
    go_enter Tryz.func37, Tryz.ntmps37
    go_wp2_with fail
    refine (E1.out _ (HB0.out _ _)).mono ?_
    rintro e' w1 ⟨rfl, hq1⟩
    obtain ⟨k1, k2, k3, k4⟩ := K.out _ hq1
    have B1 := Lib.hid ((HB0.out _ _).trans (hq1.below.mono (HB0.out _ _).size))
    have Q1 := Lib.hid hq1
    clear hq1
    cases r1 with
    | false =>
      go_wp2
      go_ret
      exact ⟨by rw [HS.out]; rfl, B1.out⟩
    | true =>
      go_wp2_with fail
      refine (E2.out _ B1.out).mono ?_
      rintro e' w2 ⟨rfl, hq2⟩
      obtain ⟨k5, k6, k7, k8⟩ := K.out _ (Q1.out.trans hq2)
      have B2 := Lib.hid (B1.out.trans (hq2.below.mono B1.out.size))
      clear hq2
      cases r2 with
      | false =>
        go_wp2
        go_ret
        exact ⟨by rw [HS.out]; rfl, B2.out⟩
      | true =>
        go_wp2_with fail
        refine (E3.out _ B2.out).mono ?_
        rintro e' w3 ⟨rfl, hq3⟩
        have B3 := Lib.hid (B2.out.trans (hq3.below.mono B2.out.size))
        clear hq3
        go_wp2
        go_ret
        exact ⟨by rw [HS.out]; rfl, B3.out⟩
  · have hbb : (d4 == f4) = false := by rw [beq_eq_false_iff_ne]; exact hb
    rw [decide_eq_false hb, Bool.false_and] at HS
    clear hb
    go_enter Tryz.func37, Tryz.ntmps37
    go_wp2
    go_ret
    exact ⟨by rw [HS.out]; rfl, HB0.out _ _⟩
end Go.Proofs.YtamgbfkpblpfiaaGreatDoor
/-
  The document's Same of witnesses.
-/
namespace Go.Proofs.YtamgbfkpblpfiaaGreatDoor
open Go.ChangeShapes Go.WideShapes Go.ChangeAt Go.RowKit
set_option linter.unusedVariables false
set_option maxHeartbeats 2000000 in
theorem r12_Same {w : World} {xl yl : List Bool} {xm ym : List CS} {vl vm ul um : Value} (h1 : Bo w vl xl) (h2 : Ces w vm xm) (g1 : Bo w ul yl) (g2 : Ces w um ym) :
    Calls Tryz.prog 66 #[.agg #[vl, vm], .agg #[ul, um]] w fun e w' => e = .returned (.bool (decide (xl = yl) && decide (xm = ym))) ∧ Below w.heap.size w w' := by
  have HB0 : Hid (∀ x y, Below w.heap.size w ((w.alloc x).alloc y)) := Lib.hid fun x y => ((Below.refl _ _).alloc (Nat.le_refl _) _).alloc (by simp) _
  have E1 := Lib.hid (fun w' (hb : Below w.heap.size w w') => r10_Same (h1.below stays_bo hb) (g1.below stays_bo hb))
  have H := Lib.hid h2
  have G := Lib.hid g2
  obtain ⟨a1, c1, rfl⟩ := h1.len
  obtain ⟨a2, c2, rfl, hl1, hl2⟩ := h2.form
  obtain ⟨a4, c4, rfl⟩ := g1.len
  obtain ⟨a5, c5, rfl, -, -⟩ := g2.form
  clear h1 h2 g1 g2
  generalize decide (xl = yl) = r1 at *
  generalize xl.length = n1 at *
  generalize yl.length = m1 at *
  obtain ⟨n2, hn⟩ : ∃ n, n = xm.length := ⟨_, rfl⟩
  obtain ⟨m2, hm⟩ : ∃ n, n = ym.length := ⟨_, rfl⟩
  have hbig : n2 ≤ 9223372036854775807 := by rw [hn]; exact Nat.le_trans hl1 hl2
  rw [← hn, ← hm]
  have HN := Lib.hid hn
  have HM := Lib.hid hm
  obtain ⟨ans, hans⟩ : ∃ ans, ans = decide (xm = ym) := ⟨_, rfl⟩
  rw [← hans]
  have HA := Lib.hid hans
  clear hn hm hans hl1 hl2
  obtain ⟨W0, hW0⟩ : ∃ W0, W0 = (w.alloc (.cells #[.slice a1 n1 c1, .slice a2 n2 c2] 27)).alloc (.cells #[.slice a4 m1 c4, .slice a5 m2 c5] 27) := ⟨_, rfl⟩
  have K : Hid (∀ W, Quiet W0 W → W.cell? ⟨w.heap.size, 1, none⟩ = some (.slice a2 n2 c2) ∧ W.cell? ⟨w.heap.size + 1, 1, none⟩ = some (.slice a5 m2 c5)) := Lib.hid (by
    rintro W ⟨n, rfl⟩
    rw [hW0]
    have q1 := (Blk.new w 27 #[.slice a1 n1 c1, .slice a2 n2 c2]).alloc (.cells #[.slice a4 m1 c4, .slice a5 m2 c5] 27)
    have q2 := Blk.new (w.alloc (.cells #[.slice a1 n1 c1, .slice a2 n2 c2] 27)) 27 #[.slice a4 m1 c4, .slice a5 m2 c5]
    have q3 := q2.cell 1
    simp only [World.size_alloc] at q3
    exact ⟨q1.cell 1, q3⟩)
  have HBW : Hid (Below w.heap.size w W0) := Lib.hid (by rw [hW0]; exact HB0.out _ _)
  have EW := Lib.hid (E1.out _ HBW.out)
  have HW := Lib.hid hW0
  rw [hW0] at EW
  clear hW0
  go_enter Tryz.func66, Tryz.ntmps66
  go_wp2_with fail
  refine EW.out.mono ?_
  rintro e' w1 ⟨rfl, hq1⟩
  rw [← HW.out] at hq1
  obtain ⟨k1, k2⟩ := K.out _ hq1
  have Q1 := Lib.hid hq1
  clear hq1 EW
  cases r1 with
  | false =>
    go_wp2
    go_ret
    exact ⟨rfl, HBW.out.trans (Q1.out.below.mono HBW.out.size)⟩
  | true =>
    by_cases hl : n2 = m2
    · have hb : ((n2 : Int) != (m2 : Int)) = false := by rw [hl]; simp
      have HL : Hid (xm.length = ym.length) := Lib.hid (by rw [← HN.out, ← HM.out]; exact hl)
      clear hl
      go_wp2
      go_loopw [5] (fun i wr => ∃ k : Nat, k ≤ n2 ∧ i = .int .i64 k ∧ SamR [] xm ym k W0 wr) (fun i _ => n2 - (intOf i).toNat)
      case atStart => exact ⟨0, Nat.zero_le _, rfl, fun _ h => absurd h (by omega), Q1.out⟩
      case round =>
        obtain ⟨k, hk, rfl, hsr⟩ := hrel
        obtain ⟨hsk, hq⟩ := hsr
        clear k1 k2 hb
        obtain ⟨k1, k2⟩ := K.out _ hq
        have HQ := Lib.hid hq
        have hbw := HBW.out.trans (hq.below.mono HBW.out.size)
        by_cases hlt : (k : Int) < (n2 : Int)
        · have hkx : k < xm.length := by have := HN.out; omega
          have hky : k < ym.length := by have := HL.out; omega
          have hky' : (k : Int) < (m2 : Int) := by have := HM.out; omega
          obtain ⟨b1, o1, p1, he1, z1, hx, hp1⟩ := H.out.at_ hkx
          obtain ⟨b2, o2, p2, he2, z2, hy, hp2⟩ := G.out.at_ hky
          injection he1 with e1 e2 e3
          subst e1
          injection he2 with e4 e5 e6
          subst e4
          have hx := cell_below hx hbw
          have hy := cell_below hy hbw
          have hp1 : Pairs wr z1 (xm.getD k []) := hp1.below hbw
          have hp2 : Pairs wr z2 (ym.getD k []) := hp2.below hbw
          rw [Nat.mul_one] at hx hy
          have HC : Hid (∀ n, Calls Tryz.prog 97 #[z1, z2] (wr.drewN n) fun e w' => e = .returned (.bool (sameC (xm.getD k []) (ym.getD k []))) ∧ Quiet (wr.drewN n) w') := Lib.hid fun n => r11_Same (w := wr.drewN n) hp1 hp2
          unfold sameC at HC
          have HS := Lib.hid hsk
          have HNO : Hid (xm.getD k [] ≠ ym.getD k [] → ans = false) := Lib.hid fun h => by rw [HA.out]; exact decide_eq_false fun e => h (by rw [e])
          have HYES : Hid (xm.getD k [] = ym.getD k [] → SameK [] xm ym (k + 1)) := Lib.hid fun h => HS.out.step h
          clear e2 e3 e5 e6 hsk hq hp1 hp2 hbw
          generalize xm.getD k [] = x at *
          generalize ym.getD k [] = y at *
          by_cases hxy : x = y
          · have HY := Lib.hid (HYES.out hxy)
            rw [decide_eq_true hxy] at HC
            clear HYES HNO hxy
            go_wp2
            go_quiet ((go_at_call 97; exact Calls.quiet_of ((HC.out _).mono fun _ _ h => h)))
            go_wp2
            go_roundw
            case rel => exact ⟨k + 1, by omega, by go_num, HY.out, HQ.out.trans ⟨_, rfl⟩⟩
            case measure => simp [intOf]; omega
          · have HX := Lib.hid (HNO.out hxy)
            rw [decide_eq_false hxy] at HC
            clear HYES HNO hxy
            go_wp2
            go_quiet ((go_at_call 97; exact Calls.quiet_of ((HC.out _).mono fun _ _ h => h)))
            go_wp2
            go_ret
            exact ⟨by rw [HX.out]; rfl, HBW.out.trans ((HQ.out.trans ⟨_, rfl⟩).below.mono HBW.out.size)⟩
        · have hkn : k = n2 := by omega
          have HX : Hid (ans = true) := Lib.hid (by rw [HA.out]; exact decide_eq_true (ext_D [] HL.out (fun j hj => hsk j (by have := HN.out; omega))))
          clear hsk hq hkn hbw
          go_wp2
          go_ret
          exact ⟨by rw [HX.out]; rfl, HBW.out.trans (HQ.out.below.mono HBW.out.size)⟩
    · have hb : ((n2 : Int) != (m2 : Int)) = true := by rw [bne_iff_ne]; omega
      have HX : Hid (ans = false) := Lib.hid (by rw [HA.out]; exact decide_eq_false fun e => hl (by rw [HN.out, HM.out, e]))
      clear hl
      go_wp2
      go_ret
      exact ⟨by rw [HX.out]; rfl, HBW.out.trans (Q1.out.below.mono HBW.out.size)⟩
set_option maxHeartbeats 2000000 in
theorem r15_Same {w : World} {d e : TrD} {vl vm vi ul um ui : Value} (h : TrP w d vl vm vi) (g : TrP w e ul um ui) : Calls Tryz.prog 28 #[trV d vl vm vi, trV e ul um ui] w fun e' w' => e' = .returned (.bool (sameT d e)) ∧ Below w.heap.size w w' := by
  have HB0 : Hid (∀ x y, Below w.heap.size w ((w.alloc x).alloc y)) := Lib.hid fun x y => ((Below.refl _ _).alloc (Nat.le_refl _) _).alloc (by simp) _
  have E1 := Lib.hid (fun w' (hb : Below w.heap.size w w') => r12_Same (h.lat.below stays_bo hb) (h.mems.below stays_ces hb) (g.lat.below stays_bo hb) (g.mems.below stays_ces hb))
  have hs : sameT d e = ((decide (d.lat = e.lat) && decide (d.mems = e.mems)) && (decide (d.ins = e.ins) && decide (d.bad = e.bad))) := by
    unfold sameT
    simp only [Bool.decide_and]
    cases decide (d.bad = e.bad) <;> cases decide (d.lat = e.lat) <;> cases decide (d.mems = e.mems) <;> cases decide (d.ins = e.ins) <;> rfl
  obtain ⟨ans, hans⟩ : ∃ ans, ans = sameT d e := ⟨_, rfl⟩
  rw [← hans] at hs ⊢
  have H := Lib.hid h.ins
  have G := Lib.hid g.ins
  obtain ⟨a1, c1, rfl⟩ := h.lat.len
  obtain ⟨a2, c2, rfl, -, -⟩ := h.mems.form
  obtain ⟨a3, c3, rfl, hl1, hl2⟩ := h.ins.form
  obtain ⟨a4, c4, rfl⟩ := g.lat.len
  obtain ⟨a5, c5, rfl, -, -⟩ := g.mems.form
  obtain ⟨a6, c6, rfl, -, -⟩ := g.ins.form
  unfold trV
  obtain ⟨d1, d2, d3, d4⟩ := d
  obtain ⟨f1, f2, f3, f4⟩ := e
  simp only at *
  clear h g hans
  have HS := Lib.hid hs
  clear hs
  generalize (decide (d1 = f1) && decide (d2 = f2)) = r1 at *
  generalize d1.length = n1 at *
  generalize d2.length = n2 at *
  generalize f1.length = m1 at *
  generalize f2.length = m2 at *
  obtain ⟨n3, hn⟩ : ∃ n, n = d3.length := ⟨_, rfl⟩
  obtain ⟨m3, hm⟩ : ∃ n, n = f3.length := ⟨_, rfl⟩
  have hbig : n3 ≤ 9223372036854775807 := by rw [hn]; exact Nat.le_trans hl1 hl2
  rw [← hn, ← hm]
  have HN := Lib.hid hn
  have HM := Lib.hid hm
  clear hn hm hl1 hl2
  have KB : Hid (∀ W, Below ((w.alloc (.cells #[.slice a1 n1 c1, .slice a2 n2 c2, .slice a3 n3 c3, .int .i64 d4] 30)).alloc (.cells #[.slice a4 m1 c4, .slice a5 m2 c5, .slice a6 m3 c6, .int .i64 f4] 30)).heap.size ((w.alloc (.cells #[.slice a1 n1 c1, .slice a2 n2 c2, .slice a3 n3 c3, .int .i64 d4] 30)).alloc (.cells #[.slice a4 m1 c4, .slice a5 m2 c5, .slice a6 m3 c6, .int .i64 f4] 30)) W → Blk W w.heap.size 30 #[.slice a1 n1 c1, .slice a2 n2 c2, .slice a3 n3 c3, .int .i64 d4] ∧ Blk W (w.heap.size + 1) 30 #[.slice a4 m1 c4, .slice a5 m2 c5, .slice a6 m3 c6, .int .i64 f4]) := Lib.hid (by
    intro W hW
    have q1 := (Blk.new w 30 #[.slice a1 n1 c1, .slice a2 n2 c2, .slice a3 n3 c3, .int .i64 d4]).alloc (.cells #[.slice a4 m1 c4, .slice a5 m2 c5, .slice a6 m3 c6, .int .i64 f4] 30)
    have q2 := Blk.new (w.alloc (.cells #[.slice a1 n1 c1, .slice a2 n2 c2, .slice a3 n3 c3, .int .i64 d4] 30)) 30 #[.slice a4 m1 c4, .slice a5 m2 c5, .slice a6 m3 c6, .int .i64 f4]
    simp only [World.size_alloc] at q2
    exact ⟨q1.below hW q1.lt, q2.below hW q2.lt⟩)
  go_enter Tryz.func28, Tryz.ntmps28
  go_wp2_with fail
  refine (E1.out _ (HB0.out _ _)).mono ?_
  rintro e' w1 ⟨rfl, hb1⟩
  obtain ⟨y1, y2⟩ := KB.out _ hb1
  have HBW := Lib.hid ((HB0.out _ _).trans (hb1.mono (HB0.out _ _).size))
  have K : Hid (∀ W, Quiet w1 W → W.cell? ⟨w.heap.size, 2, none⟩ = some (.slice a3 n3 c3) ∧ W.cell? ⟨w.heap.size, 3, none⟩ = some (.int .i64 d4) ∧ W.cell? ⟨w.heap.size + 1, 2, none⟩ = some (.slice a6 m3 c6) ∧ W.cell? ⟨w.heap.size + 1, 3, none⟩ = some (.int .i64 f4)) := Lib.hid (by
    rintro W ⟨n, rfl⟩
    exact ⟨y1.cell 2, y1.cell 3, y2.cell 2, y2.cell 3⟩)
  obtain ⟨k1, k2, k3, k4⟩ := K.out _ (Quiet.refl w1)
  clear hb1 y1 y2 KB E1
  cases r1 with
  | false =>
    go_wp2
    go_ret
    exact ⟨by rw [HS.out]; rfl, HBW.out⟩
  | true =>
    by_cases hl : n3 = m3
    · have hb : ((n3 : Int) != (m3 : Int)) = false := by rw [hl]; simp
      have HL : Hid (d3.length = f3.length) := Lib.hid (by rw [← HN.out, ← HM.out]; exact hl)
      clear hl
      by_cases hbd : d4 = f4
      · have hbb : (d4 != f4) = false := by rw [hbd]; simp
        have HS2 : Hid (ans = decide (d3 = f3)) := Lib.hid (by rw [HS.out, decide_eq_true hbd]; simp)
        clear hbd HS
        go_wp2
        clear hbb
        go_loopw [5] (fun i wr => ∃ k : Nat, k ≤ n3 ∧ i = .int .i64 k ∧ SamR [] d3 f3 k w1 wr) (fun i _ => n3 - (intOf i).toNat)
        case atStart => exact ⟨0, Nat.zero_le _, rfl, fun _ h => absurd h (by omega), Quiet.refl _⟩
        case round =>
          obtain ⟨k, hk, rfl, hsr⟩ := hrel
          obtain ⟨hsk, hq⟩ := hsr
          clear k1 k2 k3 k4 hb
          obtain ⟨k1, k2, k3, k4⟩ := K.out _ hq
          have HQ := Lib.hid hq
          have hbw := HBW.out.trans (hq.below.mono HBW.out.size)
          by_cases hlt : (k : Int) < (n3 : Int)
          · have hkx : k < d3.length := by have := HN.out; omega
            have hky : k < f3.length := by have := HL.out; omega
            have hky' : (k : Int) < (m3 : Int) := by have := HM.out; omega
            obtain ⟨b1, o1, p1, he1, z1, hx, hp1⟩ := H.out.at_ hkx
            obtain ⟨b2, o2, p2, he2, z2, hy, hp2⟩ := G.out.at_ hky
            injection he1 with e1 e2 e3
            subst e1
            injection he2 with e4 e5 e6
            subst e4
            have hx := cell_below hx hbw
            have hy := cell_below hy hbw
            have hp1 : Bo wr z1 (d3.getD k []) := hp1.below stays_bo hbw
            have hp2 : Bo wr z2 (f3.getD k []) := hp2.below stays_bo hbw
            rw [Nat.mul_one] at hx hy
            have HC : Hid (∀ n, Calls Tryz.prog 67 #[z1, z2] (wr.drewN n) fun e w' => e = .returned (.bool (decide (d3.getD k [] = f3.getD k []))) ∧ Quiet (wr.drewN n) w') := Lib.hid fun n => r10_Same (w := wr.drewN n) hp1 hp2
            have HS := Lib.hid hsk
            have HNO : Hid (d3.getD k [] ≠ f3.getD k [] → ans = false) := Lib.hid fun h => by rw [HS2.out]; exact decide_eq_false fun e => h (by rw [e])
            have HYES : Hid (d3.getD k [] = f3.getD k [] → SameK [] d3 f3 (k + 1)) := Lib.hid fun h => HS.out.step h
            clear e2 e3 e5 e6 hsk hq hp1 hp2 hbw
            generalize d3.getD k [] = x at *
            generalize f3.getD k [] = y at *
            by_cases hxy : x = y
            · have HY := Lib.hid (HYES.out hxy)
              rw [decide_eq_true hxy] at HC
              clear HYES HNO hxy
              go_wp2
              go_quiet ((go_at_call 67; exact Calls.quiet_of ((HC.out _).mono fun _ _ h => h)))
              go_wp2
              go_roundw
              case rel => exact ⟨k + 1, by omega, by go_num, HY.out, HQ.out.trans ⟨_, rfl⟩⟩
              case measure => simp [intOf]; omega
            · have HX := Lib.hid (HNO.out hxy)
              rw [decide_eq_false hxy] at HC
              clear HYES HNO hxy
              go_wp2
              go_quiet ((go_at_call 67; exact Calls.quiet_of ((HC.out _).mono fun _ _ h => h)))
              go_wp2
              go_ret
              exact ⟨by rw [HX.out]; rfl, HBW.out.trans ((HQ.out.trans ⟨_, rfl⟩).below.mono HBW.out.size)⟩
          · have hkn : k = n3 := by omega
            have HX : Hid (ans = true) := Lib.hid (by rw [HS2.out]; exact decide_eq_true (ext_D [] HL.out (fun j hj => hsk j (by have := HN.out; omega))))
            clear hsk hq hkn hbw
            go_wp2
            go_ret
            exact ⟨by rw [HX.out]; rfl, HBW.out.trans (HQ.out.below.mono HBW.out.size)⟩
      · have hbb : (d4 != f4) = true := by rw [bne_iff_ne]; exact hbd
        have HS2 : Hid (ans = false) := Lib.hid (by rw [HS.out, decide_eq_false hbd]; simp)
        clear hbd HS
        go_wp2
        go_ret
        exact ⟨by rw [HS2.out]; rfl, HBW.out⟩
    · have hb : ((n3 : Int) != (m3 : Int)) = true := by rw [bne_iff_ne]; omega
      have HX : Hid (ans = false) := Lib.hid (by rw [HS.out, decide_eq_false (fun e => hl (by rw [HN.out, HM.out, e]) : ¬ d3 = f3)]; simp)
      clear hl HS
      go_wp2
      go_ret
      exact ⟨by rw [HX.out]; rfl, HBW.out⟩
end Go.Proofs.YtamgbfkpblpfiaaGreatDoor
