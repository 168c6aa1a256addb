/-
  Chapter 40: the text of numbers, walked.
-/
import Derived.Test.YtlahecdpcpejpaaDoorFkB
import Derived.Test.YtlahecdpcpejpaaDoorShelf
import Derived.Test.YtlahecdpcpejpaaDoorFoot
import Derived.Test.YtlahecdpcpejpaaDoorApp
import Derived.Deep.RegionHeld3
namespace Go.Proofs.YtlahecdpcpejpaaDoor
open Go Go.ChangeShapes Go.WideShapes Go.ChangeAt Go.RowKit
set_option linter.unusedVariables false
set_option linter.unusedSimpArgs false
theorem below_new1' (w : World) (a : Obj) : Below w.heap.size w (w.alloc a) := (Below.refl _ _).alloc (Nat.le_refl _) _
theorem heap_newF (w : World) (a : Obj) : (w.alloc a).heap[w.heap.size]? = some a := heap_alloc_new w a
theorem take_snocT {α : Type} {l : List α} {k : Nat} (d : α) (hk : k < l.length) : l.take (k + 1) = l.take k ++ [l.getD k d] := by
  rw [List.take_succ_eq_append_getElem hk, List.getD_eq_getElem?_getD, List.getElem?_eq_getElem hk]; rfl
theorem infoS : (Tryd.prog.info? 9).map (fun i => (i.zero, i.size, i.bytes)) = some (some (.string ⟨#[]⟩), 1, 16) := by kernel_rfl
def bsT (l : List UInt8) : ByteArray := ⟨l.toArray⟩
def pt (b k : Nat) : Value := .pointer (some ⟨b, k, none⟩)
theorem cells_outF {w : World} {b rs : Nat} (h : b ≠ rs) (o : Nat) (vs : List Value) (k : Nat) : (w.setCells rs o vs).cell? ⟨b, k, none⟩ = w.cell? ⟨b, k, none⟩ :=
  World.cell?_setCells_out rs vs o w ⟨b, k, none⟩ fun e => absurd e h
theorem ten_there {w : World} {rs : Nat} {t : TypeId} {a0 a1 a2 a3 a4 a5 a6 a7 a8 a9 : Value} (h : Blk w rs t #[a0, a1, a2, a3, a4, a5, a6, a7, a8, a9]) : w.there rs 0 10 := fun j hj => by
  refine ⟨?_, h.frozen (0 + j)⟩
  rw [h.cell (0 + j)]
  have : j = 0 ∨ j = 1 ∨ j = 2 ∨ j = 3 ∨ j = 4 ∨ j = 5 ∨ j = 6 ∨ j = 7 ∨ j = 8 ∨ j = 9 := by omega
  rcases this with e | e | e | e | e | e | e | e | e | e <;> subst e <;> rfl
theorem ten_pt (b : Nat) : ∀ v, v ∈ ([.pointer (some ⟨b, 0, none⟩), .pointer (some ⟨b, 1, none⟩), .pointer (some ⟨b, 2, none⟩), .pointer (some ⟨b, 3, none⟩), .pointer (some ⟨b, 4, none⟩), .pointer (some ⟨b, 5, none⟩), .pointer (some ⟨b, 6, none⟩), .pointer (some ⟨b, 7, none⟩), .pointer (some ⟨b, 8, none⟩), .pointer (some ⟨b, 9, none⟩)] : List Value) → v.oneCell' = true := fun v hv => by
  simp at hv
  rcases hv with e | e | e | e | e | e | e | e | e | e <;> rw [e] <;> rfl
set_option maxHeartbeats 4000000 in
set_option maxRecDepth 100000 in
theorem fields_ (b : Nat) (w : World) : Calls Tryd.prog 23 #[.pointer (some ⟨b, 0, none⟩)] w fun e w' => e = .returned (.agg #[.pointer (some ⟨b, 0, none⟩), .pointer (some ⟨b, 1, none⟩), .pointer (some ⟨b, 2, none⟩), .pointer (some ⟨b, 3, none⟩), .pointer (some ⟨b, 4, none⟩), .pointer (some ⟨b, 5, none⟩), .pointer (some ⟨b, 6, none⟩), .pointer (some ⟨b, 7, none⟩), .pointer (some ⟨b, 8, none⟩), .pointer (some ⟨b, 9, none⟩)]) ∧ Below w.heap.size w w' := by
  obtain ⟨wS, hwS⟩ : ∃ wS, wS = w.alloc (.cells #[.pointer none, .pointer none, .pointer none, .pointer none, .pointer none, .pointer none, .pointer none, .pointer none, .pointer none, .pointer none] 57) := ⟨_, rfl⟩
  obtain ⟨rs, hrs⟩ : ∃ rs, rs = w.heap.size := ⟨_, rfl⟩
  have hb : Blk wS rs 57 #[.pointer none, .pointer none, .pointer none, .pointer none, .pointer none, .pointer none, .pointer none, .pointer none, .pointer none, .pointer none] := by rw [hwS, hrs]; exact Blk.new _ _ _
  have HB := Lib.hid hb
  have HBW : Hid (Below w.heap.size w wS) := Lib.hid (by rw [hwS]; exact (Below.refl _ w).alloc (Nat.le_refl _) _)
  have HW := Lib.hid hwS
  have HRS := Lib.hid hrs
  have ho := ten_pt b
  have hth : wS.there rs 0 ([.pointer (some ⟨b, 0, none⟩), .pointer (some ⟨b, 1, none⟩), .pointer (some ⟨b, 2, none⟩), .pointer (some ⟨b, 3, none⟩), .pointer (some ⟨b, 4, none⟩), .pointer (some ⟨b, 5, none⟩), .pointer (some ⟨b, 6, none⟩), .pointer (some ⟨b, 7, none⟩), .pointer (some ⟨b, 8, none⟩), .pointer (some ⟨b, 9, none⟩)] : List Value).length := ten_there hb
  have hsz : (Tryd.prog.info? 57).map (fun x => x.size) = some ([.pointer (some ⟨b, 0, none⟩), .pointer (some ⟨b, 1, none⟩), .pointer (some ⟨b, 2, none⟩), .pointer (some ⟨b, 3, none⟩), .pointer (some ⟨b, 4, none⟩), .pointer (some ⟨b, 5, none⟩), .pointer (some ⟨b, 6, none⟩), .pointer (some ⟨b, 7, none⟩), .pointer (some ⟨b, 8, none⟩), .pointer (some ⟨b, 9, none⟩)] : List Value).length := by kernel_rfl
  clear hb hwS hrs
  go_enter Tryd.func23, Tryd.ntmps23
  go_wp2
  rw [← HW.out, ← HRS.out]
  go_region_held3 (fun w' => True) (go_keep) (fail)
  obtain ⟨WF, hWF⟩ : ∃ WF, WF = wS.drew.setCells rs 0 [.pointer (some ⟨b, 0, none⟩), .pointer (some ⟨b, 1, none⟩), .pointer (some ⟨b, 2, none⟩), .pointer (some ⟨b, 3, none⟩), .pointer (some ⟨b, 4, none⟩), .pointer (some ⟨b, 5, none⟩), .pointer (some ⟨b, 6, none⟩), .pointer (some ⟨b, 7, none⟩), .pointer (some ⟨b, 8, none⟩), .pointer (some ⟨b, 9, none⟩)] := ⟨_, rfl⟩
  have hth2 := ten_there (HB.out.below ((Below.refl _ wS).drew) HB.out.lt)
  have hin := World.cell?_setCells_in rs [.pointer (some ⟨b, 0, none⟩), .pointer (some ⟨b, 1, none⟩), .pointer (some ⟨b, 2, none⟩), .pointer (some ⟨b, 3, none⟩), .pointer (some ⟨b, 4, none⟩), .pointer (some ⟨b, 5, none⟩), .pointer (some ⟨b, 6, none⟩), .pointer (some ⟨b, 7, none⟩), .pointer (some ⟨b, 8, none⟩), .pointer (some ⟨b, 9, none⟩)] 0 wS.drew (fun j hj => (hth2 j hj).1)
  rw [← hWF] at hin
  have z0 : WF.cell? ⟨rs, 0, none⟩ = some (.pointer (some ⟨b, 0, none⟩)) := hin 0 (by simp)
  have z1 : WF.cell? ⟨rs, 1, none⟩ = some (.pointer (some ⟨b, 1, none⟩)) := hin 1 (by simp)
  have z2 : WF.cell? ⟨rs, 2, none⟩ = some (.pointer (some ⟨b, 2, none⟩)) := hin 2 (by simp)
  have z3 : WF.cell? ⟨rs, 3, none⟩ = some (.pointer (some ⟨b, 3, none⟩)) := hin 3 (by simp)
  have z4 : WF.cell? ⟨rs, 4, none⟩ = some (.pointer (some ⟨b, 4, none⟩)) := hin 4 (by simp)
  have z5 : WF.cell? ⟨rs, 5, none⟩ = some (.pointer (some ⟨b, 5, none⟩)) := hin 5 (by simp)
  have z6 : WF.cell? ⟨rs, 6, none⟩ = some (.pointer (some ⟨b, 6, none⟩)) := hin 6 (by simp)
  have z7 : WF.cell? ⟨rs, 7, none⟩ = some (.pointer (some ⟨b, 7, none⟩)) := hin 7 (by simp)
  have z8 : WF.cell? ⟨rs, 8, none⟩ = some (.pointer (some ⟨b, 8, none⟩)) := hin 8 (by simp)
  have z9 : WF.cell? ⟨rs, 9, none⟩ = some (.pointer (some ⟨b, 9, none⟩)) := hin 9 (by simp)
  have hLF : Below w.heap.size w WF := by
    rw [hWF]
    exact Go.below_setCells (by rw [HRS.out]; omega) _ _ _ HBW.out.drew
  have HLF := Lib.hid hLF
  rw [← hWF]
  clear ho hth hth2 hsz hin hWF hLF
  go_wp2
  try rw [Exit.noGoto_ret]
  refine bodyPost_ret (v := .agg #[.pointer (some ⟨b, 0, none⟩), .pointer (some ⟨b, 1, none⟩), .pointer (some ⟨b, 2, none⟩), .pointer (some ⟨b, 3, none⟩), .pointer (some ⟨b, 4, none⟩), .pointer (some ⟨b, 5, none⟩), .pointer (some ⟨b, 6, none⟩), .pointer (some ⟨b, 7, none⟩), .pointer (some ⟨b, 8, none⟩), .pointer (some ⟨b, 9, none⟩)])
    (by simp [results, Tryd.results23, go_sem, z0, z1, z2, z3, z4, z5, z6, z7, z8, z9]) rfl ⟨rfl, HLF.out⟩
/-- Strings of the call's own, in a cell. -/
def StrC (wS : World) (bo : Nat) (xs : List (List UInt8)) (wr : World) : Prop :=
  ∃ v, Blk wr bo 54 #[v] ∧ Row wr 9 1 v xs.length (xs.map fun l => .string (bsT l)) ∧ (∀ g, v.ownBlock = some g → wS.heap.size ≤ g) ∧ bo < wS.heap.size ∧ Chg (fun i => i = bo) wS wr
theorem StrC.below {wS wr wx : World} {bo : Nat} {xs : List (List UInt8)} (h : StrC wS bo xs wr) (hb : Below wr.heap.size wr wx) : StrC wS bo xs wx := by
  obtain ⟨v, h1, h2, h3, h4, h5⟩ := h
  exact ⟨v, h1.below hb h1.lt, h2.chg (S := fun _ => False) (Chg.of_below hb) (fun _ _ e => e), h3, h4, h5.trans (Chg.of_below (S := fun _ => False) hb) (fun i hi => hi.elim)⟩
set_option maxHeartbeats 1000000 in
theorem putS_ {wS wr : World} {bo : Nat} {xs : List (List UInt8)} (h : StrC wS bo xs wr) (hl : xs.length ≤ 1000000) {q : Nat} {l : List UInt8} (hs : Src wr (some ⟨q, 0, none⟩) 1 1 [.string (bsT l)]) :
    Calls Tryd.prog 22 #[.slice (some ⟨q, 0, none⟩) 1 1, .pointer (some ⟨bo, 0, none⟩)] wr fun e w' => e = .returned (.tuple #[]) ∧ StrC wS bo (xs ++ [l]) w' := by
  obtain ⟨v, h1, h2, h3, h4, h5⟩ := h
  have hsz := h5.size
  obtain ⟨a, cap, hve⟩ : ∃ a c, v = .slice a xs.length c := by
    rcases h2.form with ⟨e, e0, -⟩ | ⟨g, cap, e, -⟩
    · exact ⟨none, 0, by rw [e, e0]⟩
    · exact ⟨_, cap, e⟩
  have c0 : wr.cell? ⟨bo, 0, none⟩ = some v := h1.cell 0
  have H1 := Lib.hid h1
  have H2 := Lib.hid h2
  have H3 := Lib.hid h3
  have H4 := Lib.hid h4
  have H5 := Lib.hid h5
  have HS := Lib.hid hs
  have HZ := Lib.hid hsz
  obtain ⟨n, hn⟩ : ∃ n, n = xs.length := ⟨_, rfl⟩
  rw [← hn] at hve H2 hl
  have HN := Lib.hid hn
  subst hve
  clear h1 h2 h3 h4 h5 hs hn hsz
  go_enter Tryd.func22, Tryd.ntmps22
  go_wp2_with (at_builtin; refine wpList_appS rfl _ _ _ rfl 9 (.string ⟨#[]⟩) 1 16 Tryd.underlying54 infoS rfl (by decide) (.slice a n cap) n (xs.map fun l => .string (bsT l)) rfl H2.out (some ⟨q, 0, none⟩) 1 1 [.string (bsT l)] rfl HS.out (fun u hu => by rw [List.mem_singleton.1 hu]; rfl) (by unfold maxLen; omega) (by omega) ?_)
  intro v4 w4 h4
  obtain ⟨a4, cap4, hv4, -, -, -⟩ := h4.1.some_ (by omega)
  have hne : ∀ g, (Value.slice a n cap).ownBlock = some g → g ≠ bo := fun g hg e => by
    have := H3.out g hg
    have := H4.out
    omega
  have hb4 : Blk w4 bo 54 #[.slice a n cap] := H1.out.chg h4.2.1 (fun e => hne bo e rfl)
  have c4 : w4.cell? ⟨bo, 0, none⟩ = some (.slice a n cap) := hb4.cell 0
  have f4 : w4.frozen? ⟨bo, 0, none⟩ = false := hb4.frozen 0
  have HB4 := Lib.hid hb4
  have HP4 := Lib.hid h4
  have HV4 := Lib.hid hv4
  have HNE := Lib.hid hne
  subst hv4
  clear h4 hb4 hne
  go_wp2
  go_end0
  have hge : ∀ g, (Value.slice (some ⟨a4, 0, none⟩) (n + 1) cap4).ownBlock = some g → wS.heap.size ≤ g := fun g hg => by
    rcases HP4.out.2.2 with e | e
    · rw [e] at hg; exact H3.out g hg
    · rw [e] at hg
      injection hg with hg
      have := HZ.out
      omega
  have cs' : Chg (fun i => i = bo) w4 (w4.setCell ⟨bo, 0, none⟩ (.slice (some ⟨a4, 0, none⟩) (n + 1) cap4)) := (Chg.refl (fun i => i = bo) w4).setCell (p := ⟨bo, 0, none⟩) (.inl rfl) _
  refine ⟨rfl, .slice (some ⟨a4, 0, none⟩) (n + 1) cap4, HB4.out.set_ 0 _, ?_, hge, H4.out, ?_⟩
  · have h1 := HP4.out.1.chg cs' (fun g hg e => by have := hge g hg; have := H4.out; omega)
    rw [List.length_append, List.length_singleton, ← HN.out, List.map_append]
    exact h1
  · exact (H5.out.trans HP4.out.2.1 (fun i hi => .inr (H3.out i hi))).trans cs' (fun i hi => .inl hi)
theorem idx10 (b0 : Nat) : ∀ k : Nat, k < 10 → ∀ W, (Instr.index 57 (.agg #[.pointer (some ⟨b0, 0, none⟩), .pointer (some ⟨b0, 1, none⟩), .pointer (some ⟨b0, 2, none⟩), .pointer (some ⟨b0, 3, none⟩), .pointer (some ⟨b0, 4, none⟩), .pointer (some ⟨b0, 5, none⟩), .pointer (some ⟨b0, 6, none⟩), .pointer (some ⟨b0, 7, none⟩), .pointer (some ⟨b0, 8, none⟩), .pointer (some ⟨b0, 9, none⟩)]) (.int .i64 (k : Nat))).run Tryd.prog W = .ok (.pointer (some ⟨b0, k, none⟩)) W
  | 0, _, W => by kernel_rfl
  | 1, _, W => by kernel_rfl
  | 2, _, W => by kernel_rfl
  | 3, _, W => by kernel_rfl
  | 4, _, W => by kernel_rfl
  | 5, _, W => by kernel_rfl
  | 6, _, W => by kernel_rfl
  | 7, _, W => by kernel_rfl
  | 8, _, W => by kernel_rfl
  | 9, _, W => by kernel_rfl
  | k + 10, h, _ => by omega
theorem ten_cell {w : World} {b : Nat} {t : TypeId} {x0 x1 x2 x3 x4 x5 x6 x7 x8 x9 : Int} (h : Blk w b t #[.int .i64 x0, .int .i64 x1, .int .i64 x2, .int .i64 x3, .int .i64 x4, .int .i64 x5, .int .i64 x6, .int .i64 x7, .int .i64 x8, .int .i64 x9]) : ∀ k : Nat, k < 10 → w.cell? ⟨b, k, none⟩ = some (.int .i64 ([x0, x1, x2, x3, x4, x5, x6, x7, x8, x9].getD k 0))
  | 0, _ => h.cell 0
  | 1, _ => h.cell 1
  | 2, _ => h.cell 2
  | 3, _ => h.cell 3
  | 4, _ => h.cell 4
  | 5, _ => h.cell 5
  | 6, _ => h.cell 6
  | 7, _ => h.cell 7
  | 8, _ => h.cell 8
  | 9, _ => h.cell 9
  | k + 10, h => by omega
/-- The text of ten numbers. -/
def textQ (T : Int → List UInt8) (xs : List Int) : ByteArray := bsT (Lib.join (xs.map T) [32])
set_option maxHeartbeats 4000000 in
set_option maxRecDepth 100000 in
theorem stat_Text {w : World} {x0 x1 x2 x3 x4 x5 x6 x7 x8 x9 : Int} (T : Int → List UInt8) (hT : ∀ x ∈ [x0, x1, x2, x3, x4, x5, x6, x7, x8, x9], ∀ W, Below w.heap.size w W → Calls Tryd.prog 24 #[.int .i64 x] W fun e w' => e = .returned (.string (bsT (T x))) ∧ Below W.heap.size W w') (hlen : (Lib.join ([x0, x1, x2, x3, x4, x5, x6, x7, x8, x9].map T) [32]).length ≤ 1000000) :
    Calls Tryd.prog 9 #[.agg #[.int .i64 x0, .int .i64 x1, .int .i64 x2, .int .i64 x3, .int .i64 x4, .int .i64 x5, .int .i64 x6, .int .i64 x7, .int .i64 x8, .int .i64 x9]] w fun e w' => e = .returned (.string (textQ T [x0, x1, x2, x3, x4, x5, x6, x7, x8, x9])) ∧ Below w.heap.size w w' := by
  have hmf : ∀ (fn : Fn) (first cap : Array Value) (w : World), (Instr.makeFunc fn first cap).run Tryd.prog w = .ok (.func fn first cap) w := fun _ _ _ _ => rfl
  obtain ⟨wS, hwS⟩ : ∃ wS, wS = (w.alloc (.cells #[.int .i64 x0, .int .i64 x1, .int .i64 x2, .int .i64 x3, .int .i64 x4, .int .i64 x5, .int .i64 x6, .int .i64 x7, .int .i64 x8, .int .i64 x9] 32)).alloc (.cells #[.slice none 0 0] 54) := ⟨_, rfl⟩
  obtain ⟨b0, hb0⟩ : ∃ b, b = w.heap.size := ⟨_, rfl⟩
  obtain ⟨b1, hb1⟩ : ∃ b, b = w.heap.size + 1 := ⟨_, rfl⟩
  have hbw : Below w.heap.size w wS := by rw [hwS]; exact ((Below.refl _ w).alloc (Nat.le_refl _) _).alloc (by simp) _
  have hX : Blk wS b0 32 #[.int .i64 x0, .int .i64 x1, .int .i64 x2, .int .i64 x3, .int .i64 x4, .int .i64 x5, .int .i64 x6, .int .i64 x7, .int .i64 x8, .int .i64 x9] := by
    rw [hwS, hb0]
    exact (Blk.new w _ _).alloc _
  have hY : Blk wS b1 54 #[.slice none 0 0] := by
    have e : b1 = (w.alloc (.cells #[.int .i64 x0, .int .i64 x1, .int .i64 x2, .int .i64 x3, .int .i64 x4, .int .i64 x5, .int .i64 x6, .int .i64 x7, .int .i64 x8, .int .i64 x9] 32)).heap.size := by rw [hb1]; simp
    rw [hwS, e]; exact Blk.new _ _ _
  have HX := Lib.hid hX
  have HY := Lib.hid hY
  have HBW := Lib.hid hbw
  have HWS := Lib.hid hwS
  have HB0 := Lib.hid hb0
  have HB1 : Hid (b1 = b0 + 1) := Lib.hid (by rw [hb1, hb0])
  obtain ⟨xs, hxs⟩ : ∃ xs : List Int, xs = [x0, x1, x2, x3, x4, x5, x6, x7, x8, x9] := ⟨_, rfl⟩
  rw [← hxs] at hT hlen
  have HC : Hid (∀ k : Nat, k < 10 → wS.cell? ⟨b0, k, none⟩ = some (.int .i64 (xs.getD k 0))) := Lib.hid (by rw [hxs]; exact ten_cell hX)
  have HLX : Hid (xs.length = 10) := Lib.hid (by rw [hxs]; rfl)
  have HXS := Lib.hid hxs
  have HT := Lib.hid hT
  have HLEN := Lib.hid hlen
  have HIX := Lib.hid (idx10 b0)
  have HFD := Lib.hid (fields_ b0 wS)
  clear hwS hb0 hb1 hbw hX hY hxs hT hlen
  go_enter Tryd.func9, Tryd.ntmps9
  go_wp2_with fail
  rw [← HWS.out, ← HB0.out, ← HB1.out]
  refine HFD.out.mono ?_
  rintro e w2 ⟨rfl, hb2⟩
  have HB2 := Lib.hid hb2
  obtain ⟨wF, hwF⟩ : ∃ wF, wF = w2 := ⟨_, rfl⟩
  rw [← hwF] at hb2 HB2 ⊢
  clear hwF
  have HBF := Lib.hid (HBW.out.trans (hb2.mono HBW.out.size))
  have HCF : Hid (∀ k : Nat, k < 10 → wF.cell? ⟨b0, k, none⟩ = some (.int .i64 (xs.getD k 0))) := Lib.hid fun k hk => (hb2.cell (p := ⟨b0, k, none⟩) HX.out.lt).trans (HC.out k hk)
  have hyF := HY.out.below hb2 HY.out.lt
  have HYF := Lib.hid hyF
  have HNE : Hid (b0 ≠ b1) := Lib.hid (by have := HB1.out; omega)
  have HST : Hid (StrC wF b1 ((xs.take 0).map T) wF) := Lib.hid ⟨.slice none 0 0, hyF, World.ownsRow_nil _ _ _ _, (fun g hg => by simp [Value.ownBlock] at hg), hyF.lt, Chg.refl _ _⟩
  clear hb2 hyF
  go_wp2
  go_loopw [9] (fun i wr => ∃ k : Nat, k ≤ 10 ∧ i = .int .i64 (k : Nat) ∧ StrC wF b1 ((xs.take k).map T) wr) (fun i _ => 10 - (intOf i).toNat)
  case atStart => exact ⟨0, Nat.zero_le _, rfl, HST.out⟩
  case round =>
    obtain ⟨k, hk, rfl, hS⟩ := hrel
    by_cases hlt : (k : Int) < 10
    · have hk10 : k < 10 := by omega
      have hch : Chg (fun i => i = b1) wF wr := by obtain ⟨-, -, -, -, -, h5⟩ := hS; exact h5
      have hix := HIX.out k hk10
      obtain ⟨x, hx⟩ : ∃ x, x = xs.getD k 0 := ⟨_, rfl⟩
      have q0 := HCF.out k hk10
      rw [← hx] at q0
      have q0 : wr.cell? ⟨b0, k, none⟩ = some (.int .i64 x) := by
        rw [World.cell?_of_block (w := wF) (hch.block b0 (World.block_lt_of_cell? _ _ q0) HNE.out)]; exact q0
      have hxm : x ∈ xs := by rw [hx, List.getD_eq_getElem?_getD, List.getElem?_eq_getElem (by rw [HLX.out]; exact hk10)]; exact List.getElem_mem _
      have hnx : (xs.take (k + 1)).map T = (xs.take k).map T ++ [T x] := by
        rw [take_snocT 0 (by rw [HLX.out]; exact hk10), List.map_append, ← hx]; rfl
      have hbr : Below w.heap.size w wr := HBF.out.trans (hch.below HBF.out.size fun i hi => by rw [hi, HB1.out, HB0.out]; omega)
      have HIT := Lib.hid (HT.out x hxm wr hbr)
      have HS := Lib.hid hS
      have HNX := Lib.hid hnx
      have hlk : ((xs.take k).map T).length = k := by rw [List.length_map, List.length_take, HLX.out]; omega
      have HLK := Lib.hid hlk
      clear hS hch hx hxm hnx hbr hlk
      go_wp2_with fail
      refine HIT.out.mono ?_
      rintro e w4 ⟨rfl, hb4⟩
      have HPT := Lib.hid (putS_ (wS := wF) (bo := b1) ((HS.out.below hb4).below (below_new1' w4 (.cells #[.string (bsT (T x))] 9))) (by rw [HLK.out]; omega) (Src.one (heap_newF w4 (.cells #[.string (bsT (T x))] 9))))
      clear hb4 hix q0
      go_wp2_with fail
      refine HPT.out.mono ?_
      rintro e w5 ⟨rfl, h5⟩
      have H5 := Lib.hid h5
      clear h5
      go_wp2
      go_roundw
      case rel => exact ⟨k + 1, by omega, by go_num, by rw [HNX.out]; exact H5.out⟩
      case measure => simp [intOf]; omega
    · have hk10 : k = 10 := by omega
      have hfin : (xs.take k).map T = xs.map T := by rw [List.take_of_length_le (by rw [HLX.out]; omega)]
      rw [hfin] at hS
      obtain ⟨v, h1, h2, h3, h4, h5⟩ := hS
      have hl10 : (xs.map T).length = 10 := by rw [List.length_map]; exact HLX.out
      rw [hl10] at h2
      rcases h2.form with ⟨e, e0, -⟩ | ⟨g, cap, e, f1, f2, -, hcl⟩
      · exact absurd e0 (by omega)
      · have hts : ((xs.map T).map bsT).map (fun x : ByteArray => x.data.toList) = xs.map T := by
          rw [List.map_map]
          conv => rhs; rw [← List.map_id (xs.map T)]
          exact List.map_congr_left fun l _ => by simp [bsT]
        have htl : ((xs.map T).map bsT).length = 10 := by rw [List.length_map]; exact hl10
        have hglt : g < wr.heap.size := h2.lt g (by rw [e]; rfl)
        have hJ := Tryd.strings_Join g 0 cap ((xs.map T).map bsT) ⟨#[32]⟩ wr (fun j y hy => by
          have hj : j < 10 := by
            rcases Nat.lt_or_ge j 10 with q | q
            · exact q
            · rw [List.getElem?_eq_none (by rw [htl]; exact q)] at hy; cases hy
          have h9 := (hcl j (by rw [List.length_map, hl10]; exact hj)).1
          rw [Nat.zero_add, h9]
          rw [List.getElem?_map] at hy
          rw [List.getD_eq_getElem?_getD, List.getElem?_map]
          obtain ⟨l, hl⟩ : ∃ l, (xs.map T)[j]? = some l := ⟨(xs.map T)[j]'(by rw [hl10]; exact hj), List.getElem?_eq_getElem _⟩
          rw [hl] at hy ⊢
          injection hy with hy
          rw [← hy]; rfl) hglt (by rw [htl]; omega) (by rw [htl]; omega) (by rw [hts]; have := HLEN.out; exact Nat.le_trans this (by omega))
        rw [hts, htl] at hJ
        have HJ : Hid (Calls Tryd.prog 25 #[.slice (some ⟨g, 0, none⟩) 10 cap, .string ⟨#[32]⟩] wr fun e w' => e = .returned (.string (textQ T xs)) ∧ Below wr.heap.size wr w') := Lib.hid hJ
        have c1 : wr.cell? ⟨b1, 0, none⟩ = some v := h1.cell 0
        rw [e] at c1
        have HBR : Hid (Below w.heap.size w wr) := Lib.hid (HBF.out.trans (h5.below HBF.out.size fun i hi => by rw [hi, HB1.out, HB0.out]; omega))
        clear h1 h2 h3 h4 h5 e f1 f2 hcl hts htl hglt hJ hfin hl10 hk10
        go_wp2_with fail
        refine HJ.out.mono ?_
        rintro e w9 ⟨rfl, hb9⟩
        have HF : Hid (Below w.heap.size w w9) := Lib.hid (HBR.out.trans (hb9.mono HBR.out.size))
        have HTX : Hid (textQ T xs = textQ T [x0, x1, x2, x3, x4, x5, x6, x7, x8, x9]) := Lib.hid (by rw [HXS.out])
        generalize textQ T xs = tx at *
        clear hb9 c1
        go_wp2
        go_ret
        exact ⟨by rw [← HTX.out]; rfl, HF.out⟩
end Go.Proofs.YtlahecdpcpejpaaDoor
