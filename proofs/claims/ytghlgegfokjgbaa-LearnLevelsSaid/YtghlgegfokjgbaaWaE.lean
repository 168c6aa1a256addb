/-
  Package watch: a clause watches a literal whose list is not there yet.
-/
import Derived.Test.YtghlgegfokjgbaaWaD
namespace Go.Proofs.Ytghlgegfokjgbaa
open Go.ChangeShapes Go.WideShapes Go.ChangeAt Go.RowKit
set_option linter.unusedVariables false
theorem padL_new (ls : List (List Int)) (s : Nat) (h : ls.length ≤ s) : (padL ls s).getD s [] = [] := by
  unfold padL
  simp only [List.getD]
  rw [List.getElem?_append_right h, List.getElem?_replicate, if_pos (by omega)]
  rfl
set_option maxHeartbeats 2000000 in
set_option maxRecDepth 100000 in
theorem wput_no {B : Nat} {w : World} {r : Nat → Nat} {wb t : Nat} {S : WS} {vl vs vd : Value} {us xs : List Value} (h : WV B w r wb t S vl vs vd us xs) (hB : B ≤ w.heap.size) (l : Int) (hl : lit3 l) (hs : S.ls.length ≤ slotN l) (id : Int) (hns : S.ls.length ≤ 100000) :
    Calls Try.prog 29 #[.pointer (some ⟨wb, 0, none⟩), .int .i64 l, .int .i64 id] w (PutQ B w r wb t { S with ls := putL S.ls (slotN l) id } vl vd us xs (slotN l)) := by
  have hsl := slotN_cast hl
  have hsb := slotI_bd hl
  have hc := h.cells
  obtain ⟨c0, c1, c2, c3, c4⟩ := hc
  obtain ⟨s, hse⟩ : ∃ s, s = slotN l := ⟨_, rfl⟩
  rw [← hse] at hs hsl ⊢
  have hlen := padL_len S.ls s
  have hnew := padL_new S.ls s hs
  obtain ⟨va, vc, hv, -, -⟩ : ∃ a cap, vs = .slice a S.ls.length cap ∧ True ∧ True := by
    rcases h.ls.form with ⟨rfl, h0, -⟩ | ⟨g, cap, rfl, -⟩
    · exact ⟨_, _, by rw [h0], trivial, trivial⟩
    · exact ⟨_, _, rfl, trivial, trivial⟩
  obtain ⟨n, hnn⟩ : ∃ n, n = S.ls.length := ⟨_, rfl⟩
  rw [hv, ← hnn] at c2
  rw [← hnn] at hs hns
  have HSL := Lib.hid (slot_ l hl w)
  rw [hsl] at HSL
  have s0 : (0 : Int) ≤ (s : Int) := by omega
  have s1 : (n : Int) ≤ (s : Int) := by omega
  have s3 : (s : Int) ≤ 2001 := by omega
  have lw : wb < w.heap.size := h.st.lt
  have f2 : w.frozen? ⟨wb, 2, none⟩ = false := h.st.frozen 2
  obtain ⟨m, hm⟩ : ∃ m : Nat, m = s + 1 - n := ⟨_, rfl⟩
  have hmi : (s : Int) + 1 - (n : Int) = (m : Int) := by omega
  have H := Lib.hid h
  have HN := Lib.hid hnn
  have HM := Lib.hid hm
  have HV := Lib.hid hv
  have HMI := Lib.hid hmi
  have HLE := Lib.hid hlen
  have HNEW := Lib.hid hnew
  clear h hnn hm hsl hse hv hlen hnew hmi hs hns hsb
  go_enter Try.func29, Try.ntmps29
  go_wp2_with (first
    | (go_at_call 35; refine (HSL.out).mono ?_; rintro e w' ⟨rfl, rfl⟩)
    | (at_builtin; refine wpList_app0 rfl (.tmp 24) (.tmp 25) 22 3 rfl 23 .i64 (.slice none 0 0) 24 Try.underlying22 Try.underlying3 infoL rfl rfl (.slice va n vc) n xs rfl ?ho .i64 m ?hx ?hm ?c1 ?c2 (by decide) ?_))
  case ho => have := H.out.ls; rw [HV.out, ← HN.out] at this; exact this
  case hx => show Value.int .i64 ((s : Int) + 1 - (n : Int)) = .int .i64 (m : Int); rw [HMI.out]
  case hm => have := HM.out; omega
  case c1 => have := HM.out; unfold maxLen; omega
  case c2 => have := HM.out; omega
  intro v' w1 hp
  have hms := HM.out
  obtain ⟨gs, cap, rfl, -, -, -⟩ := hp.1.some_ (by omega)
  have hp' : AppPost w 23 1 vs (S.ls.length + m) (xs ++ List.replicate m (.slice none 0 0)) (.slice (some ⟨gs, 0, none⟩) (n + m) cap) w1 := by
    rw [HV.out, ← HN.out]; exact hp
  obtain ⟨r2, h2, hc2, hr2⟩ := H.out.pad hB m hp'
  have hk : Blk w1 wb 58 #[.pointer (some ⟨t, 0, none⟩), vl, vs, vd, .int .i64 S.bk] := H.out.st.chg hp'.2.1 (fun e => by have h1 := H.out.rls wb e; have h2 := H.out.rst; omega)
  have k2 : w1.cell? ⟨wb, 2, none⟩ = some vs := hk.cell 2
  have e2 : w1.frozen? ⟨wb, 2, none⟩ = false := hk.frozen 2
  have H2 := Lib.hid h2
  have HC2 := Lib.hid hc2
  have HR2 := Lib.hid hr2
  have hnm : n + m = s + 1 := by omega
  rw [hnm] at H2 HC2 ⊢
  clear hp hp' h2 hc2 hr2 hk hnm hms c0 c1 c2 c3 c4 f2
  go_wp2
  obtain ⟨wx, hwx⟩ : ∃ wx, wx = w1.setCell ⟨wb, 2, none⟩ (.slice (some ⟨gs, 0, none⟩) (s + 1) cap) := ⟨_, rfl⟩
  rw [← hwx] at H2 HC2 ⊢
  clear hwx k2 e2
  obtain ⟨S2, hS2⟩ : ∃ S2 : WS, S2 = { S with ls := S.ls ++ List.replicate m [] } := ⟨_, rfl⟩
  rw [← hS2] at H2
  have hls : S2.ls = padL S.ls s := by rw [hS2]; show S.ls ++ _ = _; unfold padL; rw [← HN.out, ← HM.out]
  have hl2 : S2.ls.length = s + 1 := by rw [hls, HLE.out, ← HN.out]; omega
  have hge : S2.ls.getD s [] = [] := by rw [hls]; exact HNEW.out
  have c0 := H2.out.cells.c0
  have c2 := H2.out.cells.c2
  obtain ⟨gs', cap', hv', x0, f0, -, -⟩ := row_at1 H2.out.ls (i := s) (by omega)
  injection hv' with e1 e2 e3
  injection e1 with e1
  injection e1 with e1
  subst e1
  obtain ⟨g, hx, hg⟩ := H2.out.xi s (by omega)
  rw [hge] at hx
  obtain ⟨la, lc, hlv, -, -⟩ := hx.form
  rw [hlv] at x0 hx
  simp only [List.length_nil] at x0 hx
  have lg : gs < wx.heap.size := World.block_lt_of_cell? wx _ x0
  have lw2 : wb < wx.heap.size := H2.out.st.lt
  have hpl : ({ S with ls := putL S.ls s id } : WS) = { S2 with ls := S2.ls.set s ([] ++ [id]) } := by
    rw [hls, hS2]
    unfold putL
    rw [HNEW.out]
  rw [hpl]
  have HX := Lib.hid hx
  have HG := Lib.hid hg
  have HL2 := Lib.hid hl2
  have hBx : B ≤ wx.heap.size := Nat.le_trans hB HC2.out.size
  have i1 : (s : Int) < (s : Int) + 1 := by omega
  clear hx hg hlv hge hls hS2 hl2 e2 e3 hpl
  go_region_law (first
    | (refine step_appLR rfl (.tmp 40) (.tmp 42) _ rfl Try.underlying23 infoI (.slice la 0 lc) [] g (by simp [Act.eval]) ?ho ⟨wx.heap.size, 0, none⟩ 1 1 [id] (by simp [Act.eval]) rfl ?hn ?c1 ?_
       case ho => exact HX.out.drew.alloc _
       case hn => intro j hj; obtain rfl : j = 0 := (by simp at hj; omega); exact (Blk.new wx.drew 3 #[.int .i64 id]).cell 0
       case c1 => simp
       intro v3 wB hpF
       obtain ⟨ao, no, co, rfl⟩ : ∃ ao no co, v3 = .slice ao no co := by
         obtain ⟨_, q, _⟩ := hpF
         obtain ⟨ao, co, q, -⟩ := q.form
         exact ⟨ao, _, co, q⟩
       have HP := Lib.hid hpF
       obtain ⟨kB, rB, cB⟩ := WV.putCell (H2.out.chg (T := fun _ => False) ((Chg.refl _ wx).drew.alloc (.cells #[.int .i64 id] 3)) (fun _ _ h => h)) s (by have := HL2.out; omega) _ g HG.out hpF
       clear hpF))
  all_goals
    clear kB rB cB
    go_wp2
    go_returns
    refine ⟨rfl, ?_⟩
    have h3 := H2.out.chg (T := fun _ => False) ((Chg.refl _ wx).drew.alloc (.cells #[.int .i64 id] 3)) (fun _ _ h => h)
    rw [← HL2.out] at h3
    obtain ⟨r', q1, q2, q3⟩ := WV.putAt h3 (by simp; omega) s (by have := HL2.out; omega) _ g HG.out HP.out
    refine ⟨r', _, _, q1, HC2.out.trans (((Chg.refl _ wx).drew.alloc (.cells #[.int .i64 id] 3)).trans q2 (fun i hi => .inl hi)) (fun i hi => ?_), fun b hb => (q3 b (by have := HC2.out.size; simp; omega)).trans (HR2.out b hb), fun s' hs' hne => ?_⟩
    · rcases Nat.lt_or_ge i w.heap.size with h | h
      · exact .inl (by show r i ≠ 0; rw [← HR2.out i h]; exact hi)
      · exact .inr h
    · rw [getD_set_ne _ _ _ _ _ (Ne.symm hne)]
      simp only [List.getD]
      rw [List.getElem?_append_left hs']
theorem wputX {B : Nat} {w : World} {r : Nat → Nat} {wb t : Nat} {S : WS} {vl vs vd : Value} {us xs : List Value} (h : WV B w r wb t S vl vs vd us xs) (hB : B ≤ w.heap.size) (l : Int) (hl : lit3 l) (id : Int) (hn : ∀ s, s < S.ls.length → (S.ls.getD s []).length ≤ 100000) (hns : S.ls.length ≤ 100000) :
    Calls Try.prog 29 #[.pointer (some ⟨wb, 0, none⟩), .int .i64 l, .int .i64 id] w (PutQ B w r wb t { S with ls := putL S.ls (slotN l) id } vl vd us xs (slotN l)) := by
  rcases Nat.lt_or_ge (slotN l) S.ls.length with hs | hs
  · exact wput_has h hB l hl hs id (hn _ hs) hns
  · exact wput_no h hB l hl hs id hns
theorem wput {B : Nat} {w : World} {r : Nat → Nat} {wb t : Nat} {S : WS} {vl vs vd : Value} {us xs : List Value} (h : WV B w r wb t S vl vs vd us xs) (hB : B ≤ w.heap.size) (l : Int) (hl : lit3 l) (id : Int) (hn : ∀ s, s < S.ls.length → (S.ls.getD s []).length ≤ 100000) (hns : S.ls.length ≤ 100000) :
    Calls Try.prog 29 #[.pointer (some ⟨wb, 0, none⟩), .int .i64 l, .int .i64 id] w fun e w' => e = .returned (.tuple #[]) ∧ PutP B w r wb t { S with ls := putL S.ls (slotN l) id } vl vd us w' :=
  (wputX h hB l hl id hn hns).mono fun e w' ⟨h1, r', vs', xs', q1, q2, q3, _⟩ => ⟨h1, r', vs', xs', q1, q2, q3⟩
end Go.Proofs.Ytghlgegfokjgbaa
