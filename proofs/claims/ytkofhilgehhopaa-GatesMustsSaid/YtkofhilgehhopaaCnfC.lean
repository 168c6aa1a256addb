/-
  Package cnf: Add, walked.
-/
import Derived.Test.YtkofhilgehhopaaCnfA
import Derived.Test.YtkofhilgehhopaaRegion
namespace Go.Proofs.Ytkofhilgehhopaa
open Go.ChangeShapes Go.WideShapes Go.ChangeAt Go.RowKit
set_option linter.unusedVariables false
theorem Add_nil (v : Value) (w : World) : Calls Try.prog 29 #[.pointer none, v] w fun e w' => e = .returned (.int .i64 1) ∧ w = w' := by
  go_enter Try.func29, Try.ntmps29
  go_wp2
  go_ret
  exact ⟨rfl, rfl⟩
theorem Add_no {B : Nat} {w : World} {f : Nat} {vars : Int} {xss : List (List Int)} (h : FAt B w f vars xss) (h0 : 0 ≤ vars) (h1 : vars ≤ 65536) {u : Value} {l : List Int} (hi : Ints w u l) (hr : rightB l vars = false) :
    Calls Try.prog 29 #[.pointer (some ⟨f, 0, none⟩), u] w fun e w' => e = .returned (.int .i64 5) ∧ Below w.heap.size w w' := by
  obtain ⟨vl, c0, c1, -⟩ := h.read
  have hR := cl_Right hi vars h0 h1
  rw [hr] at hR
  have HR := Lib.hid hR
  obtain ⟨a, cap, rfl, -⟩ := hi
  generalize l.length = n at *
  clear h c1 hr hR h0 h1
  go_enter Try.func29, Try.ntmps29
  go_wp2_with fail
  refine HR.out.mono ?_
  rintro e w1 ⟨rfl, hb⟩
  have HB := Lib.hid hb
  clear hb
  go_wp2
  go_ret
  exact ⟨rfl, HB.out⟩
theorem add_close {B : Nat} {w w1 w2 w3 : World} {f : Nat} {vars : Int} {xss : List (List Int)} {l : List Int} {vl v' u : Value} {us : List Value} (hB0 : B ≤ f) (hBw : B ≤ w.heap.size)
    (h1 : Blk w f 59 #[.int .i64 vars, vl]) (h2 : Row w 32 1 vl xss.length us) (h3 : ∀ g, vl.ownBlock = some g → B ≤ g ∧ g ≠ f) (h4 : Cls w (fun g => g = f ∨ vl.ownBlock = some g) us xss)
    (hb : Below w.heap.size w w1) (hc : ClonePost w1 l u w2) (hp : AppPost (w2.alloc (.cells #[u] 32)) 32 1 vl (xss.length + 1) (us ++ [u]) v' w3) :
    (Blk (w3.setCell ⟨f, 1, none⟩ v') f 59 #[.int .i64 vars, v'] ∧ Row (w3.setCell ⟨f, 1, none⟩ v') 32 1 v' (xss ++ [l]).length (us ++ [u]) ∧ (∀ g, v'.ownBlock = some g → B ≤ g ∧ g ≠ f) ∧ Cls (w3.setCell ⟨f, 1, none⟩ v') (fun g => g = f ∨ v'.ownBlock = some g) (us ++ [u]) (xss ++ [l])) ∧ Below B w (w3.setCell ⟨f, 1, none⟩ v') := by
  obtain ⟨c1, c2, c3⟩ := hc
  obtain ⟨p1, p2, p3⟩ := hp
  have hA : Below w.heap.size w (w2.alloc (.cells #[u] 32)) := (hb.trans (c3.mono hb.size)).alloc (Nat.le_trans hb.size c3.size) _
  have zA : (w2.alloc (.cells #[u] 32)).heap.size = w2.heap.size + 1 := by simp
  have zw := hA.size
  have b1 := h1.lt
  have hvf : v'.ownBlock ≠ some f := by
    rcases p3 with e | e
    · rw [e]; exact fun h => (h3 f h).2 rfl
    · rw [e]; intro h; injection h with h; omega
  have hB3 : Below B w w3 := (hA.mono hBw).trans (p2.below (Nat.le_trans hBw zw) (fun i hi => (h3 i hi).1))
  have hset : Chg (fun k => k = f) w3 (w3.setCell ⟨f, 1, none⟩ v') := (Chg.refl (fun k => k = f) w3).setCell (p := ⟨f, 1, none⟩) (.inl rfl) _
  refine ⟨⟨?_, ?_, ?_, ?_⟩, hB3.setCell (p := ⟨f, 1, none⟩) hB0 _⟩
  · have : Blk w3 f 59 #[.int .i64 vars, vl] := (h1.below hA b1).chg p2 (fun e => (h3 f e).2 rfl)
    have := this.set_ 1 v'
    simpa using this
  · have := p1.chg hset (fun g hg e => hvf (by rw [hg, e]))
    simpa using this
  · intro g hg
    refine ⟨?_, fun e => hvf (by rw [hg, e])⟩
    rcases p3 with e | e
    · rw [e] at hg; exact (h3 g hg).1
    · rw [e] at hg; injection hg with hg; omega
  · have q0 : Cls w (fun g => (g = f ∨ vl.ownBlock = some g) ∨ w.heap.size ≤ g) us xss := by
      refine ⟨h4.1, fun j hj => ⟨(h4.2 j hj).1, fun g hg => ?_⟩⟩
      obtain ⟨r1, r2⟩ := (h4.2 j hj).2 g hg
      refine ⟨fun hS => ?_, r2⟩
      rcases hS with hS | hS
      · exact r1 hS
      · omega
    have q1 : Cls (w2.alloc (.cells #[u] 32)) (fun g => (g = f ∨ vl.ownBlock = some g) ∨ w.heap.size ≤ g) us xss := q0.below hA
    have q2 : Cls w3 (fun g => (g = f ∨ vl.ownBlock = some g) ∨ w.heap.size ≤ g) us xss := q1.chg p2 (fun g _ e => .inl (.inr e))
    have q3 : Cls w3 (fun g => g = f ∨ v'.ownBlock = some g) us xss := q2.mono (fun g _ e => by
      rcases e with e | e
      · exact .inl (.inl e)
      · rcases p3 with e' | e'
        · rw [e'] at e; exact .inl (.inr e)
        · rw [e'] at e; injection e with e; exact .inr (by omega))
    have q4 := q3.chg hset (fun g _ e => .inl e)
    have c1A : Row (w2.alloc (.cells #[u] 32)) 3 1 u l.length (l.map iv) := c1.alloc _
    have hlt : ∀ g, u.ownBlock = some g → g < w2.heap.size := c1.lt
    have hge : ∀ g, u.ownBlock = some g → w.heap.size ≤ g := fun g hg => Nat.le_trans hb.size (c2 g hg)
    have hcs := h2.lt
    refine q4.snoc ?_ ?_
    · refine (c1A.chg p2 (fun g hg e => ?_)).chg hset (fun g hg e => ?_) |>.ints
      · have := hge g hg; have := hcs g e; omega
      · have := hge g hg; omega
    · intro g hg
      have k1 := hge g hg
      have k2 := hlt g hg
      refine ⟨fun e => ?_, ?_⟩
      · rcases e with e | e
        · omega
        · rcases p3 with e' | e'
          · rw [e'] at e; have := hcs g e; omega
          · rw [e'] at e; injection e with e; omega
      · have := p2.size
        have : w3.heap.size = (w3.setCell ⟨f, 1, none⟩ v').heap.size := by simp [World.setCell]
        omega
theorem add_closeF {fp : Nat → Prop} {B : Nat} {w w1 w2 w3 : World} {f : Nat} {vars : Int} {xss : List (List Int)} {l : List Int} {vl v' u : Value} {us : List Value} (hB0 : B ≤ f) (hBw : B ≤ w.heap.size)
    (h1 : Blk w f 59 #[.int .i64 vars, vl]) (h2 : Row w 32 1 vl xss.length us) (h3 : ∀ g, vl.ownBlock = some g → B ≤ g ∧ g ≠ f) (h4 : Cls w (fun g => g = f ∨ vl.ownBlock = some g) us xss)
    (h5 : ∀ g, (g = f ∨ vl.ownBlock = some g ∨ ∃ j, j < xss.length ∧ (us.getD j undef).ownBlock = some g) → fp g) (h6 : ∀ g, fp g → g < w.heap.size)
    (hb : Below w.heap.size w w1) (hc : ClonePost w1 l u w2) (hp : AppPost (w2.alloc (.cells #[u] 32)) 32 1 vl (xss.length + 1) (us ++ [u]) v' w3) :
    FPostF fp B w f vars (xss ++ [l]) (w3.setCell ⟨f, 1, none⟩ v') := by
  obtain ⟨⟨q1, q2, q3, q4⟩, q5⟩ := add_close hB0 hBw h1 h2 h3 h4 hb hc hp
  have hA : Below w.heap.size w (w2.alloc (.cells #[u] 32)) := (hb.trans (hc.2.2.mono hb.size)).alloc (Nat.le_trans hb.size hc.2.2.size) _
  have hchg : Chg fp w (w3.setCell ⟨f, 1, none⟩ v') := by
    have k1 : Chg fp w w3 := (Chg.of_below hA : Chg fp w _).trans hp.2.1 (fun g hg => .inl (h5 g (.inr (.inl hg))))
    exact k1.setCell (p := ⟨f, 1, none⟩) (.inl (h5 f (.inl rfl))) v'
  have hz := hA.size
  refine ⟨fun g => g < (w3.setCell ⟨f, 1, none⟩ v').heap.size ∧ (fp g ∨ w.heap.size ≤ g), ⟨hB0, v', us ++ [u], q1, q2, q3, q4, fun g hg => ?_, fun g hg => hg.1⟩, hchg, fun g hg => hg.2, q5⟩
  rcases hg with rfl | hg | ⟨j, hj, hg⟩
  · exact ⟨q1.lt, .inl (h5 g (.inl rfl))⟩
  · refine ⟨q2.lt g hg, ?_⟩
    rcases hp.2.2 with e | e
    · rw [e] at hg; exact .inl (h5 g (.inr (.inl hg)))
    · rw [e] at hg; injection hg with hg; exact .inr (by omega)
  · refine ⟨((q4.2 j hj).2 g hg).2, ?_⟩
    simp at hj
    rcases Nat.lt_or_ge j xss.length with hjx | hjx
    · rw [getD_snoc_lt _ _ _ (by rw [h4.1]; exact hjx)] at hg
      exact .inl (h5 g (.inr (.inr ⟨j, hjx, hg⟩)))
    · obtain rfl : j = xss.length := by omega
      have : (us ++ [u]).getD xss.length undef = u := by rw [← h4.1]; exact getD_snoc_eq _ _ _
      rw [this] at hg
      exact .inr (Nat.le_trans hb.size (hc.2.1 g hg))
theorem clone_form0 {w w' : World} {u : Value} {l : List Int} (h : ClonePost w l u w') : ∃ a n cap, u = .slice a n cap := by
  rcases h.1.form with ⟨rfl, -, -⟩ | ⟨g, cap, rfl, -⟩
  · exact ⟨_, _, _, rfl⟩
  · exact ⟨_, _, _, rfl⟩
theorem clone_one {w w' : World} {u : Value} {l : List Int} (h : ClonePost w l u w') : u.oneCell' = true := by
  rcases h.1.form with ⟨rfl, -, -⟩ | ⟨g, cap, rfl, -⟩
  · rfl
  · rfl
section
variable {B : Nat} {w w1 w2 w3 : World} {f : Nat} {vars : Int} {xss : List (List Int)} {l : List Int} {vl v' u : Value} {us : List Value}
theorem add_row (h2 : Row w 32 1 vl xss.length us) (hb : Below w.heap.size w w1) (hc : ClonePost w1.drew l u w2) : Row (w2.alloc (.cells #[u] 32)) 32 1 vl xss.length us :=
  (h2.chg (S := fun _ => False) (Chg.of_below ((hb.drew).trans (hc.2.2.mono hb.size))) (fun _ _ h => h)).alloc _
theorem add_blk (h1 : Blk w f 59 #[.int .i64 vars, vl]) (h3 : ∀ g, vl.ownBlock = some g → B ≤ g ∧ g ≠ f) (hb : Below w.heap.size w w1) (hc : ClonePost w1.drew l u w2) (hp : AppPost (w2.alloc (.cells #[u] 32)) 32 1 vl (xss.length + 1) (us ++ [u]) v' w3) : Blk w3 f 59 #[.int .i64 vars, vl] :=
  ((h1.below ((hb.drew).trans (hc.2.2.mono hb.size)) h1.lt).alloc _).chg hp.2.1 (fun e => (h3 f e).2 rfl)
theorem add_cell (h1 : Blk w f 59 #[.int .i64 vars, vl]) (h3 : ∀ g, vl.ownBlock = some g → B ≤ g ∧ g ≠ f) (hb : Below w.heap.size w w1) (hc : ClonePost w1.drew l u w2) : ∀ v' w3, AppPost (w2.alloc (.cells #[u] 32)) 32 1 vl (xss.length + 1) (us ++ [u]) v' w3 → w3.cell? ⟨f, 1, none⟩ = some vl :=
  fun v' w3 hp => (add_blk h1 h3 hb hc hp).cell 1
theorem add_frozen (h1 : Blk w f 59 #[.int .i64 vars, vl]) (h3 : ∀ g, vl.ownBlock = some g → B ≤ g ∧ g ≠ f) (hb : Below w.heap.size w w1) (hc : ClonePost w1.drew l u w2) : ∀ v' w3, AppPost (w2.alloc (.cells #[u] 32)) 32 1 vl (xss.length + 1) (us ++ [u]) v' w3 → w3.frozen? ⟨f, 1, none⟩ = false :=
  fun v' w3 hp => (add_blk h1 h3 hb hc hp).frozen 1
end
set_option maxHeartbeats 2000000 in
set_option maxRecDepth 100000 in
theorem Add_yes {fp : Nat → Prop} {B : Nat} {w : World} {f : Nat} {vars : Int} {xss : List (List Int)} (h : FAtF fp B w f vars xss) (hBw : B ≤ w.heap.size) (h0 : 0 ≤ vars) (h1 : vars ≤ 65536) {u : Value} {l : List Int} (hi : Ints w u l) (hr : rightB l vars = true)
    (hx : xss.length ≤ 1000000) (hl : l.length ≤ 1099511627776) :
    Calls Try.prog 29 #[.pointer (some ⟨f, 0, none⟩), u] w fun e w' => e = .returned (.int .i64 0) ∧ FPostF fp B w f vars (xss ++ [l]) w' := by
  have hR := cl_Right hi vars h0 h1
  rw [hr] at hR
  have HR := Lib.hid hR
  obtain ⟨hB0, vl, us, k1, k2, k3, k4, k5, k6⟩ := h
  have K5 := Lib.hid k5
  have K6 := Lib.hid k6
  clear k5 k6
  have c0 : w.cell? ⟨f, 0, none⟩ = some (.int .i64 vars) := k1.cell 0
  have HI := Lib.hid hi
  have K1 := Lib.hid k1
  have K2 := Lib.hid k2
  have K3 := Lib.hid k3
  have K4 := Lib.hid k4
  obtain ⟨a, cap, hu, -⟩ := hi
  obtain ⟨n, hn⟩ : ∃ n, n = l.length := ⟨_, rfl⟩
  rw [← hn] at hu
  subst hu
  have HN := Lib.hid hn
  clear hr hR h0 h1 k1 k2 k3 k4 hn
  go_enter Try.func29, Try.ntmps29
  go_wp2_with fail
  refine HR.out.mono ?_
  rintro e w1 ⟨rfl, hb⟩
  have HB := Lib.hid hb
  have c0' : w1.cell? ⟨f, 0, none⟩ = some (.int .i64 vars) := (K1.out.below hb K1.out.lt).cell 0
  have c1 : w1.cell? ⟨f, 1, none⟩ = some vl := (K1.out.below hb K1.out.lt).cell 1
  have HC := Lib.hid (slices_Clone (w := w1.drew) (HI.out.below hb.drew) hl)
  clear hb c0
  go_wp2_with fail
  refine wp_region_any (by kernel_rfl) ?_
  change wpAny _ _ _ _ _ _ _ (World.drew _)
  refine wpAny_take (i := 0) (v := ?_) rfl (by kernel_rfl) (by kernel_rfl) (by kernel_rfl) (fun _ _ _ h => h) (Or.inl ⟨by rfl, ?_⟩) ?_
  rotate_left
  · (intro w; go_simp; try with_reducible rfl)
  refine wpAny_take (i := 1) (v := ?_) rfl (by kernel_rfl) (by kernel_rfl) (by kernel_rfl) (fun _ _ _ h => h) (Or.inl ⟨by rfl, ?_⟩) ?_
  rotate_left
  · (intro w; go_simp; try with_reducible rfl)
  refine wpAny_take (i := 2) (v := ?_) rfl (by kernel_rfl) (by kernel_rfl) (by kernel_rfl) (fun _ _ _ h => h) (Or.inl ⟨by rfl, ?_⟩) ?_
  rotate_left
  · (intro w; go_simp; try with_reducible rfl)
  refine wpAny_take (i := 3) (v := ?_) rfl (by kernel_rfl) (by kernel_rfl) (by kernel_rfl) (fun _ _ _ h => h) (Or.inl ⟨by rfl, ?_⟩) ?_
  rotate_left
  · (intro w; go_simp; try with_reducible rfl)
  refine wpAny_take (i := 5) (v := ?_) rfl (by kernel_rfl) (by kernel_rfl) (by kernel_rfl) (fun _ _ _ h => h) (Or.inl ⟨by rfl, ?_⟩) ?_
  rotate_left
  · (intro w; go_simp; try with_reducible rfl)
  refine wpAny_ready (rs := [4, 6]) (by kernel_rfl) (by simp) ?_
  refine AllReady.cons rfl (fun K hK => ?_) (AllReady.cons rfl (fun K hK => ?_) AllReady.nil)
  · go_simp
    refine hK _ _ ?_
    clear hK K
    refine wpAny_ready (rs := [6]) (by kernel_rfl) (by simp) ?_
    refine AllReady.cons rfl (fun K hK => ?_) AllReady.nil
    go_simp
    go_wp2_with (go_at_call 35; refine HC.out.mono ?_; rintro e w2 ⟨u, rfl, hp⟩; obtain ⟨ua, un, uc, rfl⟩ := clone_form0 hp; have c2 : w2.cell? ⟨f, 1, none⟩ = some vl := ((K1.out.below HB.out.drew K1.out.lt).below hp.2.2 (by have := K1.out.lt; have := HB.out.size; show f < w1.heap.size; omega)).cell 1; have c2a : (w2.alloc (.cells #[.slice ua un uc] 32)).cell? ⟨f, 1, none⟩ = some vl := (Below.cell ((Below.refl _ w2).alloc (Nat.le_refl _) _) (World.block_lt_of_cell? w2 _ c2)).trans c2; have HP := Lib.hid hp; have HO := Lib.hid (add_row K2.out HB.out hp); have HF := Lib.hid (add_cell (us := us) (xss := xss) K1.out K3.out HB.out hp); have HZ := Lib.hid (add_frozen (us := us) (xss := xss) K1.out K3.out HB.out hp); clear hp)
    try (refine hK _ _ ?_; clear hK K)
    refine wpAny_ready (rs := [7]) (by kernel_rfl) (by simp) ?_
    refine AllReady.cons rfl (fun K hK => ?_) AllReady.nil
    go_simp
    try (refine hK _ _ ?_; clear hK K)
    refine wpAny_ready (rs := [8]) (by kernel_rfl) (by simp) ?_
    refine AllReady.cons rfl (fun K hK => ?_) AllReady.nil
    (refine (step_app rfl (.tmp 20) (.tmp 23) 45 rfl 32 (.slice none 0 0) 1 24 Try.underlying45 infoL rfl (by decide) vl xss.length us (by simp [Act.eval]) HO.out w2.heap.size 0 1 1 [.slice ua un uc] (by simp [Act.eval]) rfl (cellNew _ _ _ _ (by simp)) (oneCell1 rfl) (by unfold maxLen; omega) (by omega) ?_); intro v' w3 hp3; obtain ⟨g1, cp1, rfl, -, -, -⟩ := hp3.1.some_ (by omega); have k3 : w3.cell? ⟨f, 1, none⟩ = some vl := HF.out _ _ hp3; have k4 : w3.frozen? ⟨f, 1, none⟩ = false := HZ.out _ _ hp3; have HP3 := Lib.hid hp3; clear hp3)
    refine hK _ _ ?_
    clear hK K
    refine wpAny_take (i := 9) (v := ?_) rfl (by kernel_rfl) (by kernel_rfl) (by kernel_rfl) (fun _ _ _ h => h) (Or.inl ⟨by rfl, ?_⟩) ?_
    rotate_left
    · (intro w; go_simp; try with_reducible rfl)
    refine wpAny_take (i := 10) (v := ?_) rfl (by kernel_rfl) (by kernel_rfl) (by kernel_rfl) (fun _ _ _ h => h) (Or.inl ⟨by rfl, ?_⟩) ?_
    rotate_left
    · (intro w; go_simp; try with_reducible rfl)
    refine wpAny_ready (rs := [11]) (by kernel_rfl) (by simp) ?_
    refine AllReady.cons rfl (fun K hK => ?_) AllReady.nil
    go_simp
    try (refine hK _ _ ?_; clear hK K)
    refine wpAny_done (by kernel_rfl) ?_ _
    (go_wp2; go_ret; exact ⟨rfl, add_closeF hB0 hBw K1.out K2.out K3.out K4.out K5.out K6.out HB.out.drew HP.out HP3.out⟩)
  · go_simp
    go_wp2_with (go_at_call 35; refine HC.out.mono ?_; rintro e w2 ⟨u, rfl, hp⟩; obtain ⟨ua, un, uc, rfl⟩ := clone_form0 hp; have c2 : w2.cell? ⟨f, 1, none⟩ = some vl := ((K1.out.below HB.out.drew K1.out.lt).below hp.2.2 (by have := K1.out.lt; have := HB.out.size; show f < w1.heap.size; omega)).cell 1; have c2a : (w2.alloc (.cells #[.slice ua un uc] 32)).cell? ⟨f, 1, none⟩ = some vl := (Below.cell ((Below.refl _ w2).alloc (Nat.le_refl _) _) (World.block_lt_of_cell? w2 _ c2)).trans c2; have HP := Lib.hid hp; have HO := Lib.hid (add_row K2.out HB.out hp); have HF := Lib.hid (add_cell (us := us) (xss := xss) K1.out K3.out HB.out hp); have HZ := Lib.hid (add_frozen (us := us) (xss := xss) K1.out K3.out HB.out hp); clear hp)
    try (refine hK _ _ ?_; clear hK K)
    refine wpAny_ready (rs := [4, 7]) (by kernel_rfl) (by simp) ?_
    refine AllReady.cons rfl (fun K hK => ?_) (AllReady.cons rfl (fun K hK => ?_) AllReady.nil)
    · go_simp
      refine hK _ _ ?_
      clear hK K
      refine wpAny_ready (rs := [7]) (by kernel_rfl) (by simp) ?_
      refine AllReady.cons rfl (fun K hK => ?_) AllReady.nil
      go_simp
      try (refine hK _ _ ?_; clear hK K)
      refine wpAny_ready (rs := [8]) (by kernel_rfl) (by simp) ?_
      refine AllReady.cons rfl (fun K hK => ?_) AllReady.nil
      (refine (step_app rfl (.tmp 20) (.tmp 23) 45 rfl 32 (.slice none 0 0) 1 24 Try.underlying45 infoL rfl (by decide) vl xss.length us (by simp [Act.eval]) HO.out w2.heap.size 0 1 1 [.slice ua un uc] (by simp [Act.eval]) rfl (cellNew _ _ _ _ (by simp)) (oneCell1 rfl) (by unfold maxLen; omega) (by omega) ?_); intro v' w3 hp3; obtain ⟨g1, cp1, rfl, -, -, -⟩ := hp3.1.some_ (by omega); have k3 : w3.cell? ⟨f, 1, none⟩ = some vl := HF.out _ _ hp3; have k4 : w3.frozen? ⟨f, 1, none⟩ = false := HZ.out _ _ hp3; have HP3 := Lib.hid hp3; clear hp3)
      refine hK _ _ ?_
      clear hK K
      refine wpAny_take (i := 9) (v := ?_) rfl (by kernel_rfl) (by kernel_rfl) (by kernel_rfl) (fun _ _ _ h => h) (Or.inl ⟨by rfl, ?_⟩) ?_
      rotate_left
      · (intro w; go_simp; try with_reducible rfl)
      refine wpAny_take (i := 10) (v := ?_) rfl (by kernel_rfl) (by kernel_rfl) (by kernel_rfl) (fun _ _ _ h => h) (Or.inl ⟨by rfl, ?_⟩) ?_
      rotate_left
      · (intro w; go_simp; try with_reducible rfl)
      refine wpAny_ready (rs := [11]) (by kernel_rfl) (by simp) ?_
      refine AllReady.cons rfl (fun K hK => ?_) AllReady.nil
      go_simp
      try (refine hK _ _ ?_; clear hK K)
      refine wpAny_done (by kernel_rfl) ?_ _
      (go_wp2; go_ret; exact ⟨rfl, add_closeF hB0 hBw K1.out K2.out K3.out K4.out K5.out K6.out HB.out.drew HP.out HP3.out⟩)
    · go_simp
      refine hK _ _ ?_
      clear hK K
      refine wpAny_ready (rs := [4]) (by kernel_rfl) (by simp) ?_
      refine AllReady.cons rfl (fun K hK => ?_) AllReady.nil
      go_simp
      try (refine hK _ _ ?_; clear hK K)
      refine wpAny_ready (rs := [8]) (by kernel_rfl) (by simp) ?_
      refine AllReady.cons rfl (fun K hK => ?_) AllReady.nil
      (refine (step_app rfl (.tmp 20) (.tmp 23) 45 rfl 32 (.slice none 0 0) 1 24 Try.underlying45 infoL rfl (by decide) vl xss.length us (by simp [Act.eval]) HO.out w2.heap.size 0 1 1 [.slice ua un uc] (by simp [Act.eval]) rfl (cellNew _ _ _ _ (by simp)) (oneCell1 rfl) (by unfold maxLen; omega) (by omega) ?_); intro v' w3 hp3; obtain ⟨g1, cp1, rfl, -, -, -⟩ := hp3.1.some_ (by omega); have k3 : w3.cell? ⟨f, 1, none⟩ = some vl := HF.out _ _ hp3; have k4 : w3.frozen? ⟨f, 1, none⟩ = false := HZ.out _ _ hp3; have HP3 := Lib.hid hp3; clear hp3)
      refine hK _ _ ?_
      clear hK K
      refine wpAny_take (i := 9) (v := ?_) rfl (by kernel_rfl) (by kernel_rfl) (by kernel_rfl) (fun _ _ _ h => h) (Or.inl ⟨by rfl, ?_⟩) ?_
      rotate_left
      · (intro w; go_simp; try with_reducible rfl)
      refine wpAny_take (i := 10) (v := ?_) rfl (by kernel_rfl) (by kernel_rfl) (by kernel_rfl) (fun _ _ _ h => h) (Or.inl ⟨by rfl, ?_⟩) ?_
      rotate_left
      · (intro w; go_simp; try with_reducible rfl)
      refine wpAny_ready (rs := [11]) (by kernel_rfl) (by simp) ?_
      refine AllReady.cons rfl (fun K hK => ?_) AllReady.nil
      go_simp
      try (refine hK _ _ ?_; clear hK K)
      refine wpAny_done (by kernel_rfl) ?_ _
      (go_wp2; go_ret; exact ⟨rfl, add_closeF hB0 hBw K1.out K2.out K3.out K4.out K5.out K6.out HB.out.drew HP.out HP3.out⟩)
end Go.Proofs.Ytkofhilgehhopaa
