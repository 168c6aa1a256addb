/-
  Package watch: what a watch holds, as plain data, and where it lies; its small functions.
-/
import Derived.Test.YtghlgegfokjgbaaTrailP
import Derived.Test.YtghlgegfokjgbaaRowI
import Derived.Test.YtghlgegfokjgbaaApp0
import Derived.Test.YtghlgegfokjgbaaClL
import Derived.Deep.RegionWith
import Derived.Deep.RegionHeld3
import Derived.Test.YtghlgegfokjgbaaBits
import Derived.Deep.QuietTactic
import Derived.BigQuiet
namespace Go.Proofs.Ytghlgegfokjgbaa
open Go.ChangeShapes Go.WideShapes Go.ChangeAt Go.RowKit
set_option linter.unusedVariables false
/-- A watch: its trail, its clauses (removed ones have no literals), who watches a place, which literals were gone through, which clause is false at any rate. -/
structure WS where
  t : TS
  cl : List (List Int)
  ls : List (List Int)
  dn : List Int
  bk : Int
/-- Where a watch lies; r: whose a block is (0: nobody's here; 1 the trail's, 2 the watch's own, 3 the clauses', 4 the lists', 5 the places', 6 + 2j the j-th clause's, 7 + 2s the s-th list's). -/
structure WV (B : Nat) (w : World) (r : Nat → Nat) (wb t : Nat) (S : WS) (vl vs vd : Value) (us xs : List Value) : Prop where
  st : Blk w wb 58 #[.pointer (some ⟨t, 0, none⟩), vl, vs, vd, .int .i64 S.bk]
  rst : r wb = 2
  tr : ∃ fp, TrailAt w t S.t fp ∧ ∀ k ∈ fp, r k = 1
  cl : Row w 23 1 vl S.cl.length us
  rcl : ∀ g, vl.ownBlock = some g → r g = 3
  ui : ∀ j, j < S.cl.length → ∃ g, CL w (us.getD j undef) (S.cl.getD j []) g ∧ ∀ b, g = some b → r b = 6 + 2 * j
  ls : Row w 23 1 vs S.ls.length xs
  rls : ∀ g, vs.ownBlock = some g → r g = 4
  xi : ∀ s, s < S.ls.length → ∃ g, LR w (xs.getD s undef) (S.ls.getD s []) g ∧ ∀ b, g = some b → r b = 7 + 2 * s
  dn : ∃ g, LR w vd S.dn g ∧ ∀ b, g = some b → r b = 5
  lo : ∀ b, b < B → r b = 0
  hi : ∀ b, w.heap.size ≤ b → r b = 0
def WAt (B : Nat) (w : World) (r : Nat → Nat) (wb t : Nat) (S : WS) : Prop := ∃ vl vs vd us xs, WV B w r wb t S vl vs vd us xs
/-- What a call leaves. -/
def WPost (B : Nat) (w : World) (r : Nat → Nat) (wb t : Nat) (S : WS) (w' : World) : Prop :=
  ∃ r', WAt B w' r' wb t S ∧ Chg (fun b => r b ≠ 0) w w' ∧ ∀ b, b < w.heap.size → r' b = r b
theorem WV.chg {B : Nat} {w w' : World} {r : Nat → Nat} {wb t : Nat} {S : WS} {vl vs vd : Value} {us xs : List Value} {T : Nat → Prop} (h : WV B w r wb t S vl vs vd us xs) (hc : Chg T w w') (hn : ∀ b, r b ≠ 0 → ¬ T b) : WV B w' r wb t S vl vs vd us xs := by
  obtain ⟨h1, h2, ⟨fp, h3, h3'⟩, h4, h5, h6, h7, h8, h9, ⟨gd, h10, h10'⟩, h11, h12⟩ := h
  refine ⟨h1.chg hc (hn _ (by omega)), h2, ⟨fp, h3.chg hc (fun k hk => hn _ (by rw [h3' k hk]; omega)), h3'⟩, h4.chg hc (fun g hg => hn _ (by rw [h5 g hg]; omega)), h5, fun j hj => ?_, h7.chg hc (fun g hg => hn _ (by rw [h8 g hg]; omega)), h8, fun s hs => ?_,
    ⟨gd, h10.chg hc (fun b hb => hn _ (by rw [h10' b hb]; omega)), h10'⟩, h11, fun b hb => h12 b (Nat.le_trans hc.size hb)⟩
  · obtain ⟨g, q1, q2⟩ := h6 j hj
    exact ⟨g, q1.chg hc (fun b hb => hn _ (by rw [q2 b hb]; omega)), q2⟩
  · obtain ⟨g, q1, q2⟩ := h9 s hs
    exact ⟨g, q1.chg hc (fun b hb => hn _ (by rw [q2 b hb]; omega)), q2⟩
theorem WAt.chg {B : Nat} {w w' : World} {r : Nat → Nat} {wb t : Nat} {S : WS} {T : Nat → Prop} (h : WAt B w r wb t S) (hc : Chg T w w') (hn : ∀ b, r b ≠ 0 → ¬ T b) : WAt B w' r wb t S := by
  obtain ⟨vl, vs, vd, us, xs, h⟩ := h
  exact ⟨vl, vs, vd, us, xs, h.chg hc hn⟩
theorem WAt.below {B : Nat} {w w' : World} {r : Nat → Nat} {wb t : Nat} {S : WS} (h : WAt B w r wb t S) (hb : Below w.heap.size w w') : WAt B w' r wb t S := h.chg (T := fun _ => False) (Chg.of_below hb) (fun _ _ h => h)
theorem WPost.refl {B : Nat} {w : World} {r : Nat → Nat} {wb t : Nat} {S : WS} (h : WAt B w r wb t S) : WPost B w r wb t S w := ⟨r, h, Chg.refl _ _, fun _ _ => rfl⟩
theorem WPost.below {B : Nat} {w w' : World} {r : Nat → Nat} {wb t : Nat} {S : WS} (h : WAt B w r wb t S) (hb : Below w.heap.size w w') : WPost B w r wb t S w' := ⟨r, h.below hb, Chg.of_below hb, fun _ _ => rfl⟩
theorem WPost.trans {B : Nat} {w w1 w2 : World} {r r1 : Nat → Nat} {wb t : Nat} {S : WS} (hc : Chg (fun b => r b ≠ 0) w w1) (hr : ∀ b, b < w.heap.size → r1 b = r b) (h : WPost B w1 r1 wb t S w2) : WPost B w r wb t S w2 := by
  obtain ⟨r2, q1, q2, q3⟩ := h
  refine ⟨r2, q1, hc.trans q2 (fun i hi => ?_), fun b hb => (q3 b (Nat.lt_of_lt_of_le hb hc.size)).trans (hr b hb)⟩
  rcases Nat.lt_or_ge i w.heap.size with h | h
  · exact .inl (by rw [← hr i h]; exact hi)
  · exact .inr h
/-- From a step's own blocks to all. -/
theorem WV.old {B : Nat} {w w' : World} {r : Nat → Nat} {wb t : Nat} {S : WS} {vl vs vd : Value} {us xs : List Value} (h : WV B w r wb t S vl vs vd us xs) (hb : Chg (fun b => r b ≠ 0) w w') (hB : B ≤ w.heap.size) : Below B w w' :=
  hb.below hB fun b hb => Nat.le_of_not_lt fun hlt => hb (h.lo b hlt)
/-- The cells that are read. -/
structure WCells (w : World) (wb t : Nat) (S : WS) (vl vs vd : Value) : Prop where
  c0 : w.cell? ⟨wb, 0, none⟩ = some (.pointer (some ⟨t, 0, none⟩))
  c1 : w.cell? ⟨wb, 1, none⟩ = some vl
  c2 : w.cell? ⟨wb, 2, none⟩ = some vs
  c3 : w.cell? ⟨wb, 3, none⟩ = some vd
  c4 : w.cell? ⟨wb, 4, none⟩ = some (.int .i64 S.bk)
theorem WV.cells {B : Nat} {w : World} {r : Nat → Nat} {wb t : Nat} {S : WS} {vl vs vd : Value} {us xs : List Value} (h : WV B w r wb t S vl vs vd us xs) : WCells w wb t S vl vs vd :=
  ⟨h.st.cell 0, h.st.cell 1, h.st.cell 2, h.st.cell 3, h.st.cell 4⟩
theorem row_at1 {w : World} {e : TypeId} {v : Value} {n : Nat} {xs : List Value} (h : Row w e 1 v n xs) {i : Nat} (hi : i < n) : ∃ g cap, v = .slice (some ⟨g, 0, none⟩) n cap ∧ w.cell? ⟨g, i, none⟩ = some (xs.getD i undef) ∧ w.frozen? ⟨g, i, none⟩ = false ∧ n ≤ cap ∧ cap ≤ maxLen := by
  obtain ⟨g, cap, rfl, h1, h2, -⟩ := h.some_ (by omega)
  obtain ⟨q1, q2⟩ := h.at1 i hi
  exact ⟨g, cap, rfl, q1, q2, h1, h2⟩
theorem row_len {w : World} {e : TypeId} {v : Value} {n : Nat} {xs : List Value} (h : Row w e 1 v n xs) : xs.length = n := by have := h.1; omega
/-! ### New, slot -/
def lit3 (l : Int) : Prop := -1000 ≤ l ∧ l ≤ 1000
def slotI (l : Int) : Int := if l < 0 then -l * 2 + 1 else l * 2
theorem New_nil (w : World) : Calls Try.prog 11 #[.pointer none] w fun e w' => e = .returned (.pointer none) ∧ w = w' := by
  go_enter Try.func11, Try.ntmps11
  go_wp2
  go_ret
  exact ⟨rfl, rfl⟩
def wNew (s : TS) : WS := ⟨s, [], [], [], -1⟩
theorem New_ {B : Nat} {w : World} {t : Nat} {s : TS} {fp : List Nat} (h : TrailAt w t s fp) (hB : ∀ k ∈ fp, B ≤ k) (hBw : B ≤ w.heap.size) :
    Calls Try.prog 11 #[.pointer (some ⟨t, 0, none⟩)] w fun e w' => ∃ wb r, e = .returned (.pointer (some ⟨wb, 0, none⟩)) ∧ WAt B w' r wb t (wNew s) ∧ Below w.heap.size w w' := by
  have hlt : ∀ k ∈ fp, k < w.heap.size := by
    obtain ⟨vl, gm, cm, vv, vw, hp, rfl⟩ := h.parts
    intro j hj
    simp only [List.mem_cons, List.mem_append] at hj
    rcases hj with rfl | rfl | hj | hj | hj
    · exact hp.b.lt
    · exact hp.m.lt _ rfl
    · exact hp.l.lt _ (own_mem hj)
    · exact hp.v.lt _ (own_mem hj)
    · exact hp.h.lt _ (own_mem hj)
  have HT := Lib.hid h
  have HB := Lib.hid hB
  have HL := Lib.hid hlt
  clear h hB hlt
  go_enter Try.func11, Try.ntmps11
  go_wp2
  go_ret
  have hb : Below w.heap.size w (w.alloc (.cells #[.pointer (some ⟨t, 0, none⟩), .slice none 0 0, .slice none 0 0, .slice none 0 0, .int .i64 (-1)] 58)) := (Below.refl _ _).alloc (Nat.le_refl _) _
  refine ⟨w.heap.size, fun b => if b = w.heap.size then 2 else if b ∈ fp then 1 else 0, rfl, ⟨.slice none 0 0, .slice none 0 0, .slice none 0 0, [], [], Blk.new w _ _, if_pos rfl, ⟨fp, HT.out.below hb, fun k hk => ?_⟩, World.ownsRow_nil _ _ _ _, (fun g hg => by simp [Value.ownBlock] at hg), (fun j hj => absurd hj (by simp [wNew])), World.ownsRow_nil _ _ _ _, (fun g hg => by simp [Value.ownBlock] at hg), (fun j hj => absurd hj (by simp [wNew])), ⟨none, LR.nil _, (fun b hb => by cases hb)⟩, fun b hb => ?_, fun b hb => ?_⟩, hb⟩
  · have := HL.out k hk
    rw [if_neg (by omega), if_pos hk]
  · rw [if_neg (by omega), if_neg (fun hm => by have := HB.out b hm; omega)]
  · simp at hb
    rw [if_neg (by omega), if_neg (fun hm => by have := HL.out b hm; omega)]
theorem slot_ (l : Int) (hl : lit3 l) (w : World) : Calls Try.prog 35 #[.int .i64 l] w fun e w' => e = .returned (.int .i64 (slotI l)) ∧ w = w' := by
  obtain ⟨h0, h1⟩ := hl
  by_cases h : l < 0
  · have e : slotI l = -l * 2 + 1 := by unfold slotI; rw [if_pos h]
    rw [e]
    have e1 := B.or_one_even (-l * 2) (by omega) (by omega) (by omega)
    clear e
    go_enter Try.func35, Try.ntmps35
    go_wp2
    go_ret
    exact ⟨rfl, rfl⟩
  · have e : slotI l = l * 2 := by unfold slotI; rw [if_neg h]
    rw [e]
    clear e
    go_enter Try.func35, Try.ntmps35
    go_wp2
    go_ret
    exact ⟨rfl, rfl⟩
theorem slotI_bd {l : Int} (h : lit3 l) : 0 ≤ slotI l ∧ slotI l ≤ 2001 := by obtain ⟨h0, h1⟩ := h; unfold slotI; split <;> omega
theorem slotI_inj {a b : Int} (h : slotI a = slotI b) : a = b := by unfold slotI at h; split at h <;> split at h <;> omega
def slotN (l : Int) : Nat := (slotI l).toNat
theorem slotN_cast {l : Int} (h : lit3 l) : slotI l = (slotN l : Int) := by have := slotI_bd h; unfold slotN; omega
theorem slotN_inj {a b : Int} (ha : lit3 a) (hb : lit3 b) (h : slotN a = slotN b) : a = b := slotI_inj (by rw [slotN_cast ha, slotN_cast hb, h])
end Go.Proofs.Ytghlgegfokjgbaa
