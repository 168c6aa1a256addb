/-
  Package learn: a search at one level (no literal of a lower one is met): meet, point, walked.
-/
import Derived.Test.YtghlgegfokjgbaaLnC
import Derived.Maps.RangeWalk
namespace Go.Proofs.Ytghlgegfokjgbaa
open Go Go.ChangeShapes Go.WideShapes Go.ChangeAt Go.RowKit Go.Maps
set_option linter.unusedVariables false
set_option linter.unusedSimpArgs false
attribute [local go_sem ↓] Go.wp_at_zero Go.wp_at_succ
/-- A search at block sb; what was met, at mb. -/
structure SeA (B : Nat) (w0 w : World) (r : Nat → Nat) (wb t : Nat) (S : WS) (sb mb : Nat) (seen : List Nat) (op : Int) : Prop where
  lw : LW B w0 w r wb t S
  bk : Blk w sb 73 #[.pointer (some ⟨t, 0, none⟩), .pointer (some ⟨wb, 0, none⟩), .map (some mb), .int .i64 op, .slice none 0 0]
  mp : MapF eBool w mb seen.length (setF seen)
  rs : r sb = 0
  rm : r mb = 0
  ne : sb ≠ mb
  sB : B ≤ sb
  mB : B ≤ mb
section
variable {B : Nat} {w0 w w' : World} {r : Nat → Nat} {wb t : Nat} {S : WS} {sb mb : Nat} {seen : List Nat} {op : Int}
theorem SeA.below (h : SeA B w0 w r wb t S sb mb seen op) (hb : Below w.heap.size w w') : SeA B w0 w' r wb t S sb mb seen op :=
  ⟨h.lw.below hb, h.bk.chg (S := fun _ => False) (Chg.of_below hb) (fun e => e), h.mp.chg (S := fun _ => False) (Chg.of_below hb) (fun e => e), h.rs, h.rm, h.ne, h.sB, h.mB⟩
theorem SeA.cells (h : SeA B w0 w r wb t S sb mb seen op) : w.cell? ⟨sb, 0, none⟩ = some (.pointer (some ⟨t, 0, none⟩)) ∧ w.cell? ⟨sb, 1, none⟩ = some (.pointer (some ⟨wb, 0, none⟩)) ∧ w.cell? ⟨sb, 2, none⟩ = some (.map (some mb)) ∧ w.cell? ⟨sb, 3, none⟩ = some (.int .i64 op) ∧ w.cell? ⟨sb, 4, none⟩ = some (.slice none 0 0) :=
  ⟨h.bk.cell 0, h.bk.cell 1, h.bk.cell 2, h.bk.cell 3, h.bk.cell 4⟩
theorem SeA.look (h : SeA B w0 w r wb t S sb mb seen op) (v : Nat) (hv : v ≤ 1000000) : (Instr.lookup 45 (.map (some mb)) (.int .i64 (v : Nat)) false).run Try.prog w = .ok (.bool (decide (v ∈ seen))) w := by
  have := h.mp.look tmB (x := (v : Int)) ⟨by omega, by omega⟩
  rw [this]
  unfold setF
  by_cases hm : v ∈ seen
  · rw [if_pos ⟨by omega, by rw [Int.toNat_natCast]; exact hm⟩, decide_eq_true hm]; rfl
  · rw [if_neg (fun hx => hm (by rw [Int.toNat_natCast] at hx; exact hx.2)), decide_eq_false hm]; rfl
/-- One more is met. -/
theorem SeA.put (h : SeA B w0 w r wb t S sb mb seen op) (v : Nat) (hv : v ≤ 1000000) (hs : seen.length ≤ 1000) (op' : Int) :
    ∃ w1, (Instr.mapUpdate 45 (.map (some mb)) (.int .i64 (v : Nat)) (.bool true)).run Try.prog w = .ok () w1 ∧ w1.cell? ⟨sb, 3, none⟩ = some (.int .i64 op) ∧ w1.frozen? ⟨sb, 3, none⟩ = false ∧
      SeA B w0 (w1.setCell ⟨sb, 3, none⟩ (.int .i64 op')) r wb t S sb mb (seen ++ [v]) op' ∧ Chg (fun g => g = sb ∨ g = mb) w (w1.setCell ⟨sb, 3, none⟩ (.int .i64 op')) := by
  obtain ⟨w1, hr, hm, hc⟩ := h.mp.store tmB (by unfold maxLen; omega) (x := (v : Int)) ⟨by omega, by omega⟩ true
  have hb1 := h.bk.chg hc (fun e => h.ne e)
  have hc1 : Chg (fun g => g = sb ∨ g = mb) w w1 := hc.mono (fun i hi => .inr hi)
  have hc2 : Chg (fun g => g = sb ∨ g = mb) w (w1.setCell ⟨sb, 3, none⟩ (.int .i64 op')) := hc1.setCell (.inl (.inl rfl)) _
  refine ⟨w1, hr, hb1.cell 3, hb1.frozen 3, ⟨h.lw.own (hc2.mono (fun i hi => ?_)), ?_, ?_, h.rs, h.rm, h.ne, h.sB, h.mB⟩, hc2⟩
  · rcases hi with rfl | rfl
    · exact ⟨h.sB, h.rs⟩
    · exact ⟨h.mB, h.rm⟩
  · have := hb1.set_ 3 (.int .i64 op')
    simpa using this
  · rw [List.length_append, List.length_singleton, setF_more]
    exact hm.chg (S := fun g => g = sb) ((Chg.refl (fun g => g = sb) w1).setCell (p := ⟨sb, 3, none⟩) (.inl rfl) _) (fun e => h.ne e.symm)
theorem SeA.setOp (h : SeA B w0 w r wb t S sb mb seen op) (op' : Int) : SeA B w0 (w.setCell ⟨sb, 3, none⟩ (.int .i64 op')) r wb t S sb mb seen op' := by
  have hc : Chg (fun g => g = sb) w (w.setCell ⟨sb, 3, none⟩ (.int .i64 op')) := (Chg.refl (fun g => g = sb) w).setCell (p := ⟨sb, 3, none⟩) (.inl rfl) _
  refine ⟨h.lw.own (hc.mono (fun i hi => by have hi : i = sb := hi; subst hi; exact ⟨h.sB, h.rs⟩)), ?_, h.mp.chg hc (fun e => h.ne e.symm), h.rs, h.rm, h.ne, h.sB, h.mB⟩
  have := h.bk.set_ 3 (.int .i64 op')
  simpa using this
end
/-- What a clause's literals come to. -/
def meet1 (but : Int) (st : List Nat × Int) (l : Int) : List Nat × Int := if absI l = but ∨ (absI l).toNat ∈ st.1 then st else (st.1 ++ [(absI l).toNat], st.2 + 1)
def meetF (but : Int) (st : List Nat × Int) (c : List Int) : List Nat × Int := c.foldl (meet1 but) st
theorem meetF_step (but : Int) (st : List Nat × Int) (c : List Int) {k : Nat} (hk : k < c.length) : meetF but st (c.take (k + 1)) = meet1 but (meetF but st (c.take k)) (c.getD k 0) := by
  unfold meetF
  rw [take_snocI hk, List.foldl_append]
  rfl
theorem meet1_bd (but : Int) (st : List Nat × Int) (l : Int) : (meet1 but st l).1.length ≤ st.1.length + 1 ∧ st.2 ≤ (meet1 but st l).2 ∧ (meet1 but st l).2 ≤ st.2 + 1 := by
  unfold meet1
  split
  · omega
  · simp
    omega
theorem meetF_bd (but : Int) (st : List Nat × Int) (c : List Int) : ∀ k, (meetF but st (c.take k)).1.length ≤ st.1.length + k ∧ st.2 ≤ (meetF but st (c.take k)).2 ∧ (meetF but st (c.take k)).2 ≤ st.2 + k
  | 0 => by unfold meetF; simp
  | k + 1 => by
    have ih := meetF_bd but st c k
    rcases Nat.lt_or_ge k c.length with h | h
    · rw [meetF_step but st c h]
      have := meet1_bd but (meetF but st (c.take k)) (c.getD k 0)
      omega
    · rw [List.take_of_length_le (by omega)]
      rw [List.take_of_length_le h] at ih
      omega
theorem ints_cell_chg {w wr : World} {a : Option Addr} {n cap : Nat} {c : List Int} {T : Nat → Prop} (h : Ints w (.slice a n cap) c) (hc : Chg T w wr) (hn : ∀ b, (Value.slice a n cap).ownBlock = some b → ¬ T b) {j : Nat} (hj : j < c.length) :
    ∃ b off, a = some ⟨b, off, none⟩ ∧ wr.cell? ⟨b, off + j, none⟩ = some (.int .i64 (c.getD j 0)) := by
  obtain ⟨a', cap', e, -, -, -, h3⟩ := h.chg hc hn
  injection e with e1 e2 e3
  subst e1
  rcases h3 with h3 | ⟨b, off, rfl, hcell⟩
  · rw [h3] at hj; simp at hj
  · exact ⟨b, off, rfl, hcell j hj⟩
def SeQ (B : Nat) (w0 w : World) (r : Nat → Nat) (wb t : Nat) (S : WS) (sb mb : Nat) (st : List Nat × Int) (wr : World) : Prop :=
  SeA B w0 wr r wb t S sb mb st.1 st.2 ∧ Chg (fun g => g = sb ∨ g = mb) w wr
set_option maxHeartbeats 4000000 in
set_option maxRecDepth 100000 in
theorem meet_ {B : Nat} {w0 w : World} {r : Nat → Nat} {wb t : Nat} {S : WS} {sb mb : Nat} {st : List Nat × Int} {v : Value} {c : List Int} (h : SeA B w0 w r wb t S sb mb st.1 st.2) (hv : Ints w v c) (hvb : ∀ g, v.ownBlock = some g → g ≠ sb ∧ g ≠ mb)
    (hc : ∀ y ∈ c, small y ∧ absI y ≤ 1000 ∧ S.t.level (absI y) = (S.t.lv.length : Int)) (hd : 1 ≤ S.t.lv.length) (but : Int) (hn30 : c.length ≤ 100) (hs : st.1.length ≤ 100) (ho : 0 ≤ st.2 ∧ st.2 ≤ 1000) :
    Calls Try.prog 39 #[.pointer (some ⟨sb, 0, none⟩), v, .int .i64 but] w fun e w' => e = .returned (.tuple #[]) ∧ SeQ B w0 w r wb t S sb mb (meetF but st c) w' := by
  have hmm := @run_makeMap Try.prog
  have HD := Lib.hid h.lw.depth
  have c0 := h.cells.1
  have HH := Lib.hid h
  have HC := Lib.hid hc
  have HST : Hid (SeQ B w0 w r wb t S sb mb (meetF but st (c.take 0)) w) := Lib.hid ⟨h, Chg.refl _ _⟩
  obtain ⟨a, cap, hve, -, hc1, hc2, -⟩ := id hv
  obtain ⟨n, hn⟩ : ∃ n, n = c.length := ⟨_, rfl⟩
  rw [← hn] at hve hc1 hn30
  subst hve
  have HN := Lib.hid hn
  have HV := Lib.hid hv
  have HVB := Lib.hid hvb
  have hbd := meetF_bd but st c
  have HBD := Lib.hid hbd
  obtain ⟨d, hde⟩ : ∃ d, d = S.t.lv.length := ⟨_, rfl⟩
  rw [← hde] at HD HC hd
  have HFC : Hid (meetF but st (c.take n) = meetF but st c) := Lib.hid (by rw [hn, List.take_length])
  clear h hv hvb hc hn hc1 hc2 hde hbd
  go_enter Try.func39, Try.ntmps39
  go_wp2_with ((go_at_call 22; refine (HD.out).mono ?_; rintro e w' ⟨rfl, rfl⟩))
  obtain ⟨wo, hwo⟩ : ∃ wo : World, wo = w := ⟨_, rfl⟩
  rw [← hwo] at HV HST ⊢
  have HWO := Lib.hid hwo
  clear hwo
  go_loopw [18] (fun i wr => ∃ k : Nat, k ≤ n ∧ i = .int .i64 k ∧ SeQ B w0 wo r wb t S sb mb (meetF but st (c.take k)) wr) (fun i _ => n - (intOf i).toNat)
  case atStart => exact ⟨0, Nat.zero_le _, rfl, HST.out⟩
  case round =>
    obtain ⟨k, hk, rfl, hrel⟩ := hrel
    by_cases hlt : (k : Int) < (n : Int)
    · have hkn : k < c.length := by have := HN.out; omega
      obtain ⟨hsa, hch⟩ := hrel
      obtain ⟨b, off, hab, q1⟩ := ints_cell_chg HV.out hch (fun b hb hT => by have := HVB.out b hb; rcases hT with e | e <;> simp_all) hkn
      subst hab
      obtain ⟨x, hx⟩ : ∃ x, x = c.getD k 0 := ⟨_, rfl⟩
      obtain ⟨hxs, hx9, hxl⟩ := HC.out x (by rw [hx]; simp [List.getD, hkn])
      have hx0 := absI_bd hxs
      rw [← hx] at q1
      have hstep := meetF_step but st c hkn
      rw [← hx] at hstep
      have hb1' := HBD.out k
      obtain ⟨sq, hsq⟩ : ∃ sq, sq = meetF but st (c.take k) := ⟨_, rfl⟩
      rw [← hsq] at hsa hstep hb1'
      obtain ⟨seen, op⟩ := sq
      obtain ⟨vn, hvn⟩ : ∃ vn : Nat, vn = (absI x).toNat := ⟨_, rfl⟩
      have hve : absI x = (vn : Int) := by omega
      unfold meet1 at hstep
      rw [hve, Int.toNat_natCast] at hstep
      dsimp only at hsa hstep hb1'
      have HA := Lib.hid (fun W => learn_abs x hxs W)
      rw [hve] at HA
      have hlv := hsa.lw.level (vn : Int)
      rw [hve] at hxl
      rw [hxl] at hlv
      have HLX := Lib.hid hlv
      have s0 := hsa.cells.1
      have HS := Lib.hid hsa
      have HCH := Lib.hid hch
      have HSP := Lib.hid hstep
      have hop1 : 0 ≤ op := by omega
      have hop2 : op ≤ 2000 := by omega
      have hsl : seen.length ≤ 300 := by omega
      have hvn9 : vn ≤ 1000 := by omega
      clear hsa hch hxs hx hxl hsq hvn hve hlv hstep hb1' hkn hx9 hx0
      go_wp2_with ((go_at_call 19; refine (HA.out _).mono ?_; rintro e w' ⟨rfl, rfl⟩))
      refine HLX.out.mono ?_
      rintro e w1 ⟨rfl, hb1⟩
      have hs1 := HS.out.below hb1
      have hch1 := HCH.out.trans (Chg.of_below (S := fun _ => False) hb1) (fun i hi => hi.elim)
      obtain ⟨t0, t1, t2, t3, t4⟩ := hs1.cells
      have hlk := hs1.look vn (by omega)
      have d1 : decide ((d : Int) < 1) = false := decide_eq_false (by omega)
      have HS1 := Lib.hid hs1
      have HCH1 := Lib.hid hch1
      clear hs1 hch1 hb1 t0 t1 t4
      by_cases hbut : (vn : Int) = but
      · have d0 : ((vn : Int) == but) = true := by rw [beq_iff_eq]; exact hbut
        have HF : Hid (SeQ B w0 wo r wb t S sb mb (meetF but st (c.take (k + 1))) w1) := Lib.hid (by rw [HSP.out, if_pos (.inl hbut)]; exact ⟨HS1.out, HCH1.out⟩)
        clear hbut
        go_wp2
        go_roundw
        case rel => exact ⟨k + 1, by omega, by go_num, HF.out⟩
        case measure => simp [intOf]; omega
      · have d0 : ((vn : Int) == but) = false := by rw [beq_eq_false_iff_ne]; exact hbut
        by_cases hmem : vn ∈ seen
        · rw [decide_eq_true hmem] at hlk
          have HF : Hid (SeQ B w0 wo r wb t S sb mb (meetF but st (c.take (k + 1))) w1) := Lib.hid (by rw [HSP.out, if_pos (.inr hmem)]; exact ⟨HS1.out, HCH1.out⟩)
          clear hbut hmem
          go_wp2
          go_roundw
          case rel => exact ⟨k + 1, by omega, by go_num, HF.out⟩
          case measure => simp [intOf]; omega
        · rw [decide_eq_false hmem] at hlk
          obtain ⟨w2, hr2, q3, f3, hse, hc2⟩ := HS1.out.put vn (by omega) (by omega) (op + 1)
          have HF : Hid (SeQ B w0 wo r wb t S sb mb (meetF but st (c.take (k + 1))) (w2.setCell ⟨sb, 3, none⟩ (.int .i64 (op + 1)))) := Lib.hid (by rw [HSP.out, if_neg (fun h => h.elim hbut hmem)]; exact ⟨hse, HCH1.out.trans hc2 (fun i hi => .inl hi)⟩)
          have hm2 : w1.heap.size ≤ w2.heap.size := by have := hc2.size; simpa using this
          clear hbut hmem hse hc2
          go_wp2
          go_roundw
          case rel => exact ⟨k + 1, by omega, by go_num, HF.out⟩
          case measure => simp [intOf]; omega
    · have hkn : k = n := by omega
      have HF : Hid (SeQ B w0 wo r wb t S sb mb (meetF but st c) wr) := Lib.hid (by rw [← HFC.out, ← hkn]; exact hrel)
      clear hrel hkn
      go_wp2
      first | (refine bodyPost_end (results_none rfl _ _ _) rfl ?_) | go_returns
      exact ⟨rfl, by rw [← HWO.out]; exact HF.out⟩
/-! ### point, at the example -/
def exL (S : WS) : Prop := S.t.l = [1, 2] ∧ S.t.lv.length = 1 ∧ S.t.level 1 = 1 ∧ S.t.level 2 = 1 ∧ S.t.reason 2 = 0 ∧ S.cl.getD 0 [] = [2, -1] ∧ isB S ((0 : Nat) : Int) = true
theorem SeA.len {B : Nat} {w0 w : World} {r : Nat → Nat} {wb t : Nat} {S : WS} {sb mb : Nat} {seen : List Nat} {op : Int} (h : SeA B w0 w r wb t S sb mb seen op) : Calls Try.prog 33 #[.pointer (some ⟨t, 0, none⟩)] w fun e w' => e = .returned (.int .i64 S.t.l.length) ∧ w = w' := by
  obtain ⟨vl, vs, vd, us, xs, hV⟩ := h.lw.at_
  obtain ⟨fp, hT, hfp⟩ := hV.tr
  exact trail_Len hT
theorem SeA.at_ {B : Nat} {w0 w : World} {r : Nat → Nat} {wb t : Nat} {S : WS} {sb mb : Nat} {seen : List Nat} {op : Int} (h : SeA B w0 w r wb t S sb mb seen op) (i : Nat) (hi : i < S.t.l.length) : Calls Try.prog 34 #[.pointer (some ⟨t, 0, none⟩), .int .i64 i] w fun e w' => e = .returned (.int .i64 (S.t.l.getD i 0)) ∧ w = w' := by
  obtain ⟨vl, vs, vd, us, xs, hV⟩ := h.lw.at_
  obtain ⟨fp, hT, hfp⟩ := hV.tr
  exact trail_At hT i hi
end Go.Proofs.Ytghlgegfokjgbaa
/-
  Package learn: point, at the example.
-/
namespace Go.Proofs.Ytghlgegfokjgbaa
open Go Go.ChangeShapes Go.WideShapes Go.ChangeAt Go.RowKit Go.Maps
set_option linter.unusedVariables false
set_option linter.unusedSimpArgs false
attribute [local go_sem ↓] Go.wp_at_zero Go.wp_at_succ
section
variable {B : Nat} {w0 w : World} {r : Nat → Nat} {wb t : Nat} {S : WS} {sb mb : Nat} {seen : List Nat} {op : Int}
/-- Calls of the trail's, from any later world. -/
theorem SeA.lev (h : SeA B w0 w r wb t S sb mb seen op) (x : Int) : ∀ W, Below w.heap.size w W → Calls Try.prog 18 #[.pointer (some ⟨t, 0, none⟩), .int .i64 x] W fun e w' => e = .returned (.int .i64 (S.t.level x)) ∧ Below w.heap.size w w' := fun W hW =>
  ((h.below hW).lw.level x).mono fun e w' ⟨h1, h2⟩ => ⟨h1, hW.trans (h2.mono hW.size)⟩
theorem SeA.rsn (h : SeA B w0 w r wb t S sb mb seen op) (x : Int) : ∀ W, Below w.heap.size w W → Calls Try.prog 24 #[.pointer (some ⟨t, 0, none⟩), .int .i64 x] W fun e w' => e = .returned (.int .i64 (S.t.reason x)) ∧ Below w.heap.size w w' := fun W hW =>
  ((h.below hW).lw.reason x).mono fun e w' ⟨h1, h2⟩ => ⟨h1, hW.trans (h2.mono hW.size)⟩
theorem SeA.dep (h : SeA B w0 w r wb t S sb mb seen op) : ∀ W, Below w.heap.size w W → Calls Try.prog 22 #[.pointer (some ⟨t, 0, none⟩)] W fun e w' => e = .returned (.int .i64 S.t.lv.length) ∧ W = w' := fun W hW => (h.below hW).lw.depth
def LkL (sb mb t wb : Nat) (v : Int) (w' : World) : Prop := w'.cell? ⟨sb, 0, none⟩ = some (.pointer (some ⟨t, 0, none⟩)) ∧ w'.cell? ⟨sb, 1, none⟩ = some (.pointer (some ⟨wb, 0, none⟩)) ∧ w'.cell? ⟨sb, 2, none⟩ = some (.map (some mb)) ∧ (Instr.lookup 45 (.map (some mb)) (.int .i64 v) false).run Try.prog w' = .ok (.bool true) w'
theorem SeA.lk (h : SeA B w0 w r wb t S sb mb seen op) (v : Nat) (hv : v ≤ 1000) (hm : v ∈ seen) : ∀ W, Below w.heap.size w W → LkL sb mb t wb (v : Int) W := fun W hW => by
  have h1 := h.below hW
  obtain ⟨c0, c1, c2, c3, c4⟩ := h1.cells
  have := h1.look v (by omega)
  rw [decide_eq_true hm] at this
  exact ⟨c0, c1, c2, this⟩
def ClQ (W0 : World) (e : Ending) (w' : World) : Prop := ∃ a c, e = .returned (.slice a 2 c) ∧ Ints w' (.slice a 2 c) [2, -1] ∧ (∀ g, (Value.slice a 2 c).ownBlock = some g → W0.heap.size ≤ g) ∧ Below W0.heap.size W0 w'
theorem SeA.cla (h : SeA B w0 w r wb t S sb mb seen op) (x6 : S.cl.getD 0 [] = [2, -1]) (x7 : isB S ((0 : Nat) : Int) = true) : ∀ W, Below w.heap.size w W → Calls Try.prog 40 #[.pointer (some ⟨wb, 0, none⟩), .int .i64 0] W (ClQ w) := fun W hW => by
  have := Clause_yes (h.below hW).lw.at_ 0 x7 (by rw [x6]; decide)
  rw [x6] at this
  refine this.mono ?_
  rintro e w' ⟨u, rfl, hp⟩
  have hi := hp.1.ints
  obtain ⟨a, c, hv, -⟩ := id hi
  subst hv
  exact ⟨a, c, rfl, hi, fun g hg => Nat.le_trans hW.size (hp.2.1 g hg), hW.trans (hp.2.2.mono hW.size)⟩
theorem SeA.mt (h : SeA B w0 w r wb t S sb mb [2, 1] op) (hop : 0 ≤ op ∧ op ≤ 10) (x2 : S.t.lv.length = 1) (x3 : S.t.level 1 = 1) (x4 : S.t.level 2 = 1) : ∀ W a c, Below w.heap.size w W → Ints W (.slice a 2 c) [2, -1] → (∀ g, (Value.slice a 2 c).ownBlock = some g → w.heap.size ≤ g) →
    Calls Try.prog 39 #[.pointer (some ⟨sb, 0, none⟩), .slice a 2 c, .int .i64 2] W fun e w' => e = .returned (.tuple #[]) ∧ SeA B w0 w' r wb t S sb mb [2, 1] op := fun W a c hW hi ho => by
  have h1 := h.bk.lt
  have h2 := h.mp.lt
  refine (meet_ (st := ([2, 1], op)) (h.below hW) hi (fun g hg => by have := ho g hg; omega) ?_ (by omega) 2 (by simp) (by simp) (by dsimp only; omega)).mono ?_
  · intro y hy
    rw [x2]
    simp at hy
    rcases hy with rfl | rfl
    · exact ⟨by unfold small; omega, by decide, x4⟩
    · exact ⟨by unfold small; omega, by decide, x3⟩
  · rintro e w' ⟨rfl, hq, -⟩
    exact ⟨rfl, hq⟩
end
set_option maxHeartbeats 4000000 in
set_option maxRecDepth 100000 in
theorem point_ {B : Nat} {w0 w : World} {r : Nat → Nat} {wb t : Nat} {S : WS} {sb mb : Nat} (h : SeA B w0 w r wb t S sb mb [2, 1] 2) (hx : exL S) :
    Calls Try.prog 41 #[.pointer (some ⟨sb, 0, none⟩)] w fun e w' => e = .returned (.int .i64 (-1)) ∧ ∃ op, SeA B w0 w' r wb t S sb mb [2, 1] op := by
  obtain ⟨x1, x2, x3, x4, x5, x6, x7⟩ := hx
  have hlen := h.len
  rw [x1] at hlen
  have HLEN := Lib.hid hlen
  have c0 := h.cells.1
  have H0 := Lib.hid h
  have X1 := Lib.hid x1
  have X2 := Lib.hid x2
  have X3 := Lib.hid x3
  have X4 := Lib.hid x4
  have X5 := Lib.hid x5
  have X6 := Lib.hid x6
  have X7 := Lib.hid x7
  clear h hlen x1 x2 x3 x4 x5 x6 x7
  go_enter Try.func41, Try.ntmps41
  go_wp2_with ((go_at_call 33; refine (HLEN.out).mono ?_; rintro e w' ⟨rfl, rfl⟩))
  go_loopw [3] (fun i wr => (i = .int .i64 1 ∧ SeA B w0 wr r wb t S sb mb [2, 1] 2) ∨ (i = .int .i64 0 ∧ SeA B w0 wr r wb t S sb mb [2, 1] 1)) (fun i _ => (intOf i).toNat)
  case atStart => exact .inl ⟨rfl, H0.out⟩
  case round =>
    rcases hrel with ⟨rfl, hs⟩ | ⟨rfl, hs⟩
    · have ha := hs.at_ 1 (by rw [X1.out]; decide)
      rw [X1.out] at ha
      have HA := Lib.hid (show Calls Try.prog 34 #[.pointer (some ⟨t, 0, none⟩), .int .i64 1] wr fun e w' => e = .returned (.int .i64 2) ∧ wr = w' from ha)
      have HAB := Lib.hid (fun W => learn_abs 2 (by unfold small; omega) W)
      have hab : absI 2 = 2 := rfl
      rw [hab] at HAB
      have hl := hs.lev 2
      rw [X4.out] at hl
      have HL := Lib.hid hl
      have hd := hs.dep
      rw [X2.out] at hd
      have HD := Lib.hid hd
      have KC := Lib.hid (hs.lk 2 (by omega) (by simp))
      have KB0 : Hid (Below wr.heap.size wr wr) := Lib.hid (Below.refl _ _)
      obtain ⟨e0, e1, e2, e3⟩ := KC.out _ KB0.out
      obtain ⟨-, -, -, e4⟩ := KC.out _ KB0.out.drew
      have HS := Lib.hid hs
      clear ha hab hl hd hs
      go_wp2_with (first | (go_at_call 34; refine (HA.out).mono ?_; rintro e w' ⟨rfl, rfl⟩) | (go_at_call 19; refine (HAB.out _).mono ?_; rintro e w' ⟨rfl, rfl⟩))
      go_region_held3 (fun w' : World => w'.cell? ⟨sb, 0, none⟩ = some (.pointer (some ⟨t, 0, none⟩)) ∧ w'.cell? ⟨sb, 1, none⟩ = some (.pointer (some ⟨wb, 0, none⟩)) ∧ w'.cell? ⟨sb, 2, none⟩ = some (.map (some mb)) ∧ (Instr.lookup 45 (.map (some mb)) (.int .i64 2) false).run Try.prog w' = .ok (.bool true) w') (first | exact KC.out _ KB0.out.drew | exact KC.out _ KB1.out | exact KC.out _ KB1.out.drew | exact KC.out _ KB0.out | go_keep) (first
        | (go_at_call 22; refine (HD.out _ (by first | exact KB3.out | exact KB2.out | exact KB1.out | exact KB0.out | exact KB3.out.drew | exact KB2.out.drew | exact KB1.out.drew | exact KB0.out.drew)).mono ?_; rintro e wd ⟨rfl, rfl⟩)
        | (go_at_call 18; refine (HL.out _ (by first | exact KB3.out | exact KB2.out | exact KB1.out | exact KB0.out | exact KB3.out.drew | exact KB2.out.drew | exact KB1.out.drew | exact KB0.out.drew)).mono ?_; rintro e w1 ⟨rfl, hb1⟩; have KB1 := Lib.hid hb1; obtain ⟨e0, e1, e2, e3⟩ := KC.out _ hb1; clear hb1))
      all_goals
        have hs1 := HS.out.below KB1.out
        obtain ⟨q0, q1, q2, q3, q4⟩ := hs1.cells
        have qf := hs1.bk.frozen 3
        have hs2 := hs1.setOp 1
        obtain ⟨W2, hW2⟩ : ∃ W2, W2 = w1.setCell ⟨sb, 3, none⟩ (.int .i64 1) := ⟨_, rfl⟩
        rw [← hW2] at hs2
        have HW2 := Lib.hid hW2
        have HS2 := Lib.hid hs2
        have hrs := hs2.rsn 2
        rw [X5.out] at hrs
        have HR := Lib.hid hrs
        have HC := Lib.hid (hs2.cla X6.out X7.out)
        have HM := Lib.hid (hs2.mt (by omega) X2.out X3.out X4.out)
        obtain ⟨z0, z1, -, z3, -⟩ := hs2.cells
        have KB0 : Hid (Below W2.heap.size W2 W2) := Lib.hid (Below.refl _ _)
        have KC : Hid (∀ W, Below W2.heap.size W2 W → (fun w' : World => w'.cell? ⟨sb, 0, none⟩ = some (.pointer (some ⟨t, 0, none⟩)) ∧ w'.cell? ⟨sb, 1, none⟩ = some (.pointer (some ⟨wb, 0, none⟩))) W) := Lib.hid fun W hW => ⟨(HS2.out.below hW).cells.1, (HS2.out.below hW).cells.2.1⟩
        clear hs1 hs2 hrs hW2 HL HD HA KB1 e0 e1 e2 e3
        go_wp2
        rw [← HW2.out]
        clear qf q0 q1 q2 q3 q4
        go_region_held3 (fun w' : World => w'.cell? ⟨sb, 0, none⟩ = some (.pointer (some ⟨t, 0, none⟩)) ∧ w'.cell? ⟨sb, 1, none⟩ = some (.pointer (some ⟨wb, 0, none⟩))) (first | exact KC.out _ KB0.out.drew | exact KS.out | exact KC.out _ KB2.out | exact KC.out _ KB1.out | exact KC.out _ KB0.out | go_keep) (first
          | (go_at_call 24; refine (HR.out _ (by first | exact KB3.out | exact KB2.out | exact KB1.out | exact KB0.out | exact KB3.out.drew | exact KB2.out.drew | exact KB1.out.drew | exact KB0.out.drew)).mono ?_; rintro e w3 ⟨rfl, hb1⟩; have KB1 := Lib.hid hb1; obtain ⟨e0, e1⟩ := KC.out _ hb1; clear hb1)
          | (go_at_call 40; refine (HC.out _ (by first | exact KB3.out | exact KB2.out | exact KB1.out | exact KB0.out | exact KB3.out.drew | exact KB2.out.drew | exact KB1.out.drew | exact KB0.out.drew)).mono ?_; rintro e w4 ⟨ca, cc, rfl, hci, hco, hb2⟩; have KB2 := Lib.hid hb2; have HCI := Lib.hid hci; have HCO := Lib.hid hco; obtain ⟨e0, e1⟩ := KC.out _ hb2; clear hb2 hci hco)
          | (go_at_call 39; refine (HM.out _ _ _ (by first | exact KB3.out | exact KB2.out | exact KB1.out | exact KB0.out | exact KB3.out.drew | exact KB2.out.drew | exact KB1.out.drew | exact KB0.out.drew) HCI.out HCO.out).mono ?_; rintro e w5 ⟨rfl, hs5⟩; obtain ⟨e0, e1, -, -, -⟩ := hs5.cells; have HS5 := Lib.hid hs5; have KS : Hid (w5.cell? ⟨sb, 0, none⟩ = some (.pointer (some ⟨t, 0, none⟩)) ∧ w5.cell? ⟨sb, 1, none⟩ = some (.pointer (some ⟨wb, 0, none⟩))) := Lib.hid ⟨e0, e1⟩; clear hs5))
        all_goals
          go_wp2
          go_roundw
          case rel => exact .inr ⟨by go_num, HS5.out⟩
          case measure => simp [intOf]
    · have ha := hs.at_ 0 (by rw [X1.out]; decide)
      rw [X1.out] at ha
      have HA := Lib.hid (show Calls Try.prog 34 #[.pointer (some ⟨t, 0, none⟩), .int .i64 0] wr fun e w' => e = .returned (.int .i64 1) ∧ wr = w' from ha)
      have HAB := Lib.hid (fun W => learn_abs 1 (by unfold small; omega) W)
      have hab : absI 1 = 1 := rfl
      rw [hab] at HAB
      have hl := hs.lev 1
      rw [X3.out] at hl
      have HL := Lib.hid hl
      have hd := hs.dep
      rw [X2.out] at hd
      have HD := Lib.hid hd
      have KC := Lib.hid (hs.lk 1 (by omega) (by simp))
      have KB0 : Hid (Below wr.heap.size wr wr) := Lib.hid (Below.refl _ _)
      obtain ⟨e0, e1, e2, e3⟩ := KC.out _ KB0.out
      have HS := Lib.hid hs
      clear ha hab hl hd hs
      go_wp2_with (first | (go_at_call 34; refine (HA.out).mono ?_; rintro e w' ⟨rfl, rfl⟩) | (go_at_call 19; refine (HAB.out _).mono ?_; rintro e w' ⟨rfl, rfl⟩))
      go_region_held3 (fun w' : World => w'.cell? ⟨sb, 0, none⟩ = some (.pointer (some ⟨t, 0, none⟩)) ∧ w'.cell? ⟨sb, 1, none⟩ = some (.pointer (some ⟨wb, 0, none⟩)) ∧ w'.cell? ⟨sb, 2, none⟩ = some (.map (some mb)) ∧ (Instr.lookup 45 (.map (some mb)) (.int .i64 1) false).run Try.prog w' = .ok (.bool true) w') (first | exact KC.out _ KB0.out.drew | exact KC.out _ KB1.out | exact KC.out _ KB1.out.drew | exact KC.out _ KB0.out | go_keep) (first
        | (go_at_call 22; refine (HD.out _ (by first | exact KB3.out | exact KB2.out | exact KB1.out | exact KB0.out | exact KB3.out.drew | exact KB2.out.drew | exact KB1.out.drew | exact KB0.out.drew)).mono ?_; rintro e wd ⟨rfl, rfl⟩)
        | (go_at_call 18; refine (HL.out _ (by first | exact KB3.out | exact KB2.out | exact KB1.out | exact KB0.out | exact KB3.out.drew | exact KB2.out.drew | exact KB1.out.drew | exact KB0.out.drew)).mono ?_; rintro e w1 ⟨rfl, hb1⟩; have KB1 := Lib.hid hb1; obtain ⟨e0, e1, e2, e3⟩ := KC.out _ hb1; clear hb1))
      all_goals
        have hs1 := HS.out.below KB1.out
        obtain ⟨q0, q1, q2, q3, q4⟩ := hs1.cells
        have qf := hs1.bk.frozen 3
        have hs2 := hs1.setOp 0
        have qs : sb < w1.heap.size := hs1.bk.lt
        have HS2 := Lib.hid hs2
        clear hs1 hs2 HL HD HA KB1 e0 e1 e2 e3
        go_wp2
        go_ret
        exact ⟨rfl, 0, HS2.out⟩
end Go.Proofs.Ytghlgegfokjgbaa
/-
  Package learn: From, at the example.
-/
namespace Go.Proofs.Ytghlgegfokjgbaa
open Go Go.ChangeShapes Go.WideShapes Go.ChangeAt Go.RowKit Go.Maps
set_option linter.unusedVariables false
set_option linter.unusedSimpArgs false
attribute [local go_sem ↓] Go.wp_at_zero Go.wp_at_succ
theorem invKI (key : Value) (kl : Lit) (h : keyOf Try.prog 3 key = some kl) : ∃ x, key = Value.int .i64 x := by
  obtain ⟨x, h1, -⟩ := keyOf_int_inv Try.underlying3 h
  exact ⟨x, h1⟩
set_option maxRecDepth 100000 in
theorem invVB (v : Value) (y : DataW Unit × List MemPlace) (h : plainElem (H := Unit) Try.prog 4 v = some y) : ∃ c, v = Value.bool c := by
  unfold plainElem at h
  rw [Try.underlying4] at h
  cases v <;> simp at h
  exact ⟨_, rfl⟩
/-- The map is gone through. -/
def RgR (B : Nat) (w0 : World) (r : Nat → Nat) (wb t : Nat) (S : WS) (sb mb rr : Nat) (op : Int) (wr : World) : Prop :=
  ∃ n left cnt D, wr.ranges Try.prog 3 (plainElem (H := Unit) Try.prog 4) mb rr n D left cnt ∧ LW B w0 wr r wb t S ∧ Blk wr sb 73 #[.pointer (some ⟨t, 0, none⟩), .pointer (some ⟨wb, 0, none⟩), .map (some mb), .int .i64 op, .slice none 0 0] ∧ sb ≠ mb ∧ sb ≠ rr ∧ r sb = 0 ∧ r mb = 0 ∧ r rr = 0 ∧ B ≤ sb ∧ B ≤ mb ∧ B ≤ rr
section
variable {B : Nat} {w0 w wr : World} {r : Nat → Nat} {wb t : Nat} {S : WS} {sb mb rr : Nat} {op : Int}
theorem RgR.below (h : RgR B w0 r wb t S sb mb rr op wr) {w' : World} (hb : Below wr.heap.size wr w') : RgR B w0 r wb t S sb mb rr op w' ∧ w'.rangeLeft mb rr = wr.rangeLeft mb rr := by
  obtain ⟨n, left, cnt, D, h1, h2, h3, h4⟩ := h
  have hc := Chg.of_below (S := fun _ => False) hb
  have h1' : w'.ranges Try.prog 3 (plainElem (H := Unit) Try.prog 4) mb rr n D left cnt := by
    obtain ⟨es, clock, since, seen, c0, hm, F, hs, hD, hr, rest⟩ := h1
    exact ⟨es, clock, since, seen, c0, hc.at_ hm (fun e => e), F, hs, hD, hc.at_ hr (fun e => e), rest⟩
  exact ⟨⟨n, left, cnt, D, h1', h2.below hb, h3.chg hc (fun e => e), h4⟩, by rw [h1'.left_eq, h1.left_eq]⟩
end
theorem neg1_ints (w : World) : Ints (w.alloc (.cells #[.int .i64 (-1)] 3)) (.slice (some ⟨w.heap.size, 0, none⟩) 1 1) [-1] := by
  refine ⟨_, 1, rfl, (fun h => by cases h), by simp, by simp [maxLen], .inr ⟨w.heap.size, 0, rfl, fun j hj => ?_⟩⟩
  match j, hj with
  | 0, _ => simp [World.cell?_alloc_at]
theorem idx_none (fv : Value) (w : World) : Calls Try.prog 61 #[.slice none 0 0, fv] w fun e w' => e = .returned (.int .i64 (-1)) ∧ w = w' := by
  go_enter Try.func61, Try.ntmps61
  go_wp2
  refine wp_loop_rounds 1 ?_
  rw [rounds_succ]
  go_wp2
  go_ret
  exact ⟨rfl, rfl⟩
theorem del_none (fv : Value) (w : World) : Calls Try.prog 45 #[.slice none 0 0, fv] w fun e w' => e = .returned (.slice none 0 0) ∧ w = w' := by
  go_enter Try.func45, Try.ntmps45
  go_wp2_with ((go_at_call 61; refine (idx_none _ _).mono ?_; rintro e w' ⟨rfl, rfl⟩))
  go_ret
  exact ⟨rfl, rfl⟩
set_option maxHeartbeats 8000000 in
set_option maxRecDepth 100000 in
theorem From_ {B : Nat} {w0 w : World} {r : Nat → Nat} {wb t : Nat} {S : WS} (h : LW B w0 w r wb t S) (hx : exL S) (hc1 : S.cl.getD 1 [] = [-2, -1]) (hi1 : isB S ((1 : Nat) : Int) = true) :
    Calls Try.prog 16 #[.pointer (some ⟨t, 0, none⟩), .pointer (some ⟨wb, 0, none⟩), .int .i64 1] w fun e w' => ∃ u v, e = .returned (.tuple #[u, .int .i64 0, v]) ∧ Ints w' u [-1] ∧ Below B w0 w' := by
  have hmm := @run_makeMap Try.prog
  have hS0 : SeA B w0 ((w.alloc (.map #[] 0)).alloc (.cells #[.pointer (some ⟨t, 0, none⟩), .pointer (some ⟨wb, 0, none⟩), .map (some w.heap.size), .int .i64 0, .slice none 0 0] 73)) r wb t S (w.heap.size + 1) w.heap.size [] 0 := by
    have hb1 : Below w.heap.size w (w.alloc (.map #[] 0)) := (Below.refl _ _).alloc (Nat.le_refl _) _
    have hb2 : Below w.heap.size w ((w.alloc (.map #[] 0)).alloc (.cells #[.pointer (some ⟨t, 0, none⟩), .pointer (some ⟨wb, 0, none⟩), .map (some w.heap.size), .int .i64 0, .slice none 0 0] 73)) := hb1.alloc (by simp) _
    refine ⟨h.below hb2, ?_, ?_, h.at_.hi _ (by omega), h.at_.hi _ (by omega), by omega, by have := h.hB; omega, h.hB⟩
    · have := Blk.new (w.alloc (.map #[] 0)) 73 #[.pointer (some ⟨t, 0, none⟩), .pointer (some ⟨wb, 0, none⟩), .map (some w.heap.size), .int .i64 0, .slice none 0 0]
      simpa using this
    · have e : setF [] = fun _ => none := by funext x; simp [setF]
      rw [e]
      exact (MapF.made eBool w).chg (S := fun _ => False) ((Chg.refl (fun _ => False) _).alloc _) (fun e => e)
  obtain ⟨W1, hW1⟩ : ∃ W1, W1 = (w.alloc (.map #[] 0)).alloc (.cells #[.pointer (some ⟨t, 0, none⟩), .pointer (some ⟨wb, 0, none⟩), .map (some w.heap.size), .int .i64 0, .slice none 0 0] 73) := ⟨_, rfl⟩
  obtain ⟨mb, hmb⟩ : ∃ mb, mb = w.heap.size := ⟨_, rfl⟩
  obtain ⟨sb, hsb⟩ : ∃ sb, sb = mb + 1 := ⟨_, rfl⟩
  rw [← hW1, ← hmb, ← hsb] at hS0
  have hcl := Clause_yes hS0.lw.at_ 1 hi1 (by rw [hc1]; decide)
  rw [hc1] at hcl
  have HCL := Lib.hid hcl
  have H0 := Lib.hid hS0
  have HX := Lib.hid hx
  have HMB := Lib.hid hmb
  have HSB := Lib.hid hsb
  have HW1 := Lib.hid hW1
  clear h hx hc1 hi1 hS0 hcl hmb hsb hW1
  go_enter Try.func16, Try.ntmps16
  go_wp2_with fail
  go_step3
  go_wp2_with fail
  rw [← HW1.out, ← HMB.out, ← HSB.out]
  refine HCL.out.mono ?_
  rintro e w2 ⟨u, rfl, hp⟩
  have hi := hp.1.ints
  have hs2 := H0.out.below hp.2.2
  have hsb := H0.out.bk.lt
  have hmb := H0.out.mp.lt
  obtain ⟨x1, x2, x3, x4, x5, x6, x7⟩ := id HX.out
  have hm := meet_ (st := ([], 0)) hs2 hi (fun g hg => by have := hp.2.1 g hg; omega) (fun y hy => by
    rw [x2]
    simp at hy
    rcases hy with rfl | rfl
    · exact ⟨by unfold small; omega, by decide, x4⟩
    · exact ⟨by unfold small; omega, by decide, x3⟩) (by omega) 0 (by simp) (by simp) (by dsimp only; omega)
  have he : meetF 0 ([], 0) [-2, -1] = ([2, 1], 2) := by decide
  rw [he] at hm
  obtain ⟨ua, uc, hu, -⟩ := id hi
  subst hu
  have HM := Lib.hid hm
  clear hp hi hs2 hsb hmb x1 x2 x3 x4 x5 x6 x7 hm he
  go_wp2_with fail
  refine HM.out.mono ?_
  rintro e w3 ⟨rfl, hs3, -⟩
  have HP := Lib.hid (point_ hs3 HX.out)
  clear hs3
  go_wp2_with fail
  refine HP.out.mono ?_
  rintro e w4 ⟨rfl, op, hs4⟩
  have HK := Lib.hid (keys_ (some mb) w4)
  have HSO := Lib.hid (sorted_ hs4.mp (by simp))
  obtain ⟨c0, c1, c2, c3, c4⟩ := hs4.cells
  have H4 := Lib.hid hs4
  clear hs4
  go_wp2_with fail
  refine HK.out.mono ?_
  rintro e wk ⟨rfl, rfl⟩
  go_wp2_with fail
  refine HSO.out.mono ?_
  rintro e w5 ⟨v, R, rfl, -, -, -, -, hb5⟩
  have hs5 := H4.out.below hb5
  obtain ⟨d0, d1, d2, d3, d4⟩ := hs5.cells
  obtain ⟨cs, hown, -, -⟩ := hs5.mp
  have H5 := Lib.hid hs5
  have HO := Lib.hid hown
  clear hs5 hown hb5 c0 c1 c2 c3 c4
  go_wp2_with (first
    | (at_range; refine wpList_range_own (H := Unit) _ rfl _ 45 rfl 3 4 kint Try.underlying45 _ mb _ _ rfl HO.out ?_; intro w6 hrg0 hg0 hs0)
    | fail)
  go_frame
  obtain ⟨rr, hrr⟩ : ∃ rr, rr = w5.heap.size := ⟨_, rfl⟩
  have hB6 : Below w5.heap.size w5 w6 := (Below.refl _ w5).grown hg0 (Nat.le_refl _) (fun j hj => by cases hj)
  have hR0 : RgR B w0 r wb t S sb mb rr op w6 := by
    have h5 := H5.out
    have h6 := h5.below hB6
    have e1 := h5.bk.lt
    have e2 := h5.mp.lt
    have e3 := h5.lw.hB
    rw [← hrr] at hrg0
    exact ⟨_, _, _, _, hrg0, h6.lw, h6.bk, h5.ne, by omega, h5.rs, h5.rm, h5.lw.at_.hi rr (by omega), h5.sB, h5.mB, by omega⟩
  have HR0 := Lib.hid hR0
  rw [← hrr]
  clear hB6 hR0 hrg0 hg0 hs0 hrr d0 d1 d2 d3 d4 hmm
  go_loopw [12] (fun _ wr => RgR B w0 r wb t S sb mb rr op wr) (fun _ wr => wr.rangeLeft mb rr)
  case atStart => exact HR0.out
  case round =>
    obtain ⟨n, left, cnt, D, hrg, hlw, hbk, n1, n2, r1, r2, r3, b1, b2, b3⟩ := hrel
    have HL := Lib.hid hrg.left_eq
    have c0 := hbk.cell 0
    have c2 := hbk.cell 2
    have c4 := hbk.cell 4
    have HLW := Lib.hid hlw
    have HBK := Lib.hid hbk
    clear hlw hbk
    go_wp2_with (first
      | (at_next; refine wpList_next_ranges (H := Unit) _ rfl _ rfl 3 kint (plainElem (H := Unit) Try.prog 4) (Value.int .i64) Value.bool invKI invVB mb rr n D left cnt rfl hrg (fun hc0 hl0 => ?_) (fun x c kl y w1 cnt1 hkey hlk hy hat hrg1 hlt hg1 hs1 hen => ?_))
      | (go_at_call 27; refine (clone_nil _).mono ?_; rintro e w' ⟨rfl, rfl⟩)
      | (go_at_call 45; refine (del_none _ _).mono ?_; rintro e w' ⟨rfl, rfl⟩)
      | fail)
    · clear c0 c2 c4 hrg hl0 hc0
      go_step3
      go_wp2
      refine wp_loop_rounds 2 ?_
      rw [rounds_succ]
      go_wp2
      rw [rounds_succ]
      go_wp2
      rw [Exit.noGoto_ret]
      go_returns
      exact ⟨_, _, rfl, neg1_ints wr, HLW.out.old.alloc HLW.out.hB _⟩
    · have hc1 : Chg (fun k => k = rr) wr w1 := Chg.of_grown hg1 (fun k hk => by injection hk with hk; exact hk.symm)
      have hlw1 := HLW.out.own (hc1.mono (fun i hi => by have hi : i = rr := hi; subst hi; exact ⟨b3, r3⟩))
      have hbk1 := HBK.out.chg hc1 (fun e => n2 e)
      have HLV := Lib.hid (hlw1.level x)
      have HR1 : Hid (RgR B w0 r wb t S sb mb rr op w1) := Lib.hid ⟨_, _, _, _, hrg1, hlw1, hbk1, n1, n2, r1, r2, r3, b1, b2, b3⟩
      have HL1 := Lib.hid hrg1.left_eq
      have HLT := Lib.hid hlt
      have HKY := Lib.hid hkey
      obtain ⟨lv, hlv⟩ : ∃ lv, lv = S.t.level x := ⟨_, rfl⟩
      rw [← hlv] at HLV
      clear hc1 hlw1 hbk1 hrg1 hlt hg1 hs1 hen hlv hkey hlk hy hat hrg c0 c2 c4
      refine HLV.out.mono ?_
      rintro e w2' ⟨rfl, hb2⟩
      obtain ⟨hR2, hL2⟩ := HR1.out.below hb2
      obtain ⟨n', left', cnt', D', hrg2, hlw2, hbk2, -⟩ := id hR2
      have hd := hlw2.depth
      have HD := Lib.hid hd
      obtain ⟨dp, hdp⟩ : ∃ dp, dp = S.t.lv.length := ⟨_, rfl⟩
      rw [← hdp] at HD
      have HR2 := Lib.hid hR2
      have HL2 := Lib.hid hL2
      have d0 := hbk2.cell 0
      have d2 := hbk2.cell 2
      clear hdp hd hR2 hL2 hb2 hlw2 hbk2
      by_cases heq : lv = (dp : Int)
      · have e0 : (lv == (dp : Int)) = true := by rw [beq_iff_eq]; exact heq
        clear heq
        go_wp2_with (first
          | (go_at_call 22; refine (HD.out).mono ?_; rintro e w' ⟨rfl, rfl⟩)
          | (at_delete; refine wpList_delete_ranges (H := Unit) _ rfl _ _ 45 3 rfl 4 kint Try.underlying45 (plainElem (H := Unit) Try.prog 4) mb rr n' D' left' cnt' rfl hrg2 (.int .i64 x) kl rfl HKY.out (fun w3' cnt3 hrg3 hle3 htn3 => ?_))
          | fail)
        have hc3 := turned_chg htn3
        obtain ⟨_, _, _, _, -, hlw2, hbk2, -⟩ := HR2.out
        have HR3 : Hid (RgR B w0 r wb t S sb mb rr op w3') := Lib.hid ⟨_, _, _, _, hrg3, hlw2.own (hc3.mono (fun i hi => by have hi : i = mb := hi; subst hi; exact ⟨b2, r2⟩)), hbk2.chg hc3 (fun e => n1 e), n1, n2, r1, r2, r3, b1, b2, b3⟩
        have HM3 : Hid (w3'.rangeLeft mb rr < wr.rangeLeft mb rr) := Lib.hid (by
          have h1 := HL2.out
          have h2 := HL1.out
          have h3 := HL.out
          have h4 := HLT.out
          rw [hrg2.left_eq] at h1
          rw [hrg3.left_eq]
          omega)
        clear hc3 hlw2 hbk2 hrg2 hrg3 htn3 hle3
        try simp only [Act.put]
        go_roundw
        case rel => exact HR3.out
        case measure => exact HM3.out
      · have e0 : (lv == (dp : Int)) = false := by rw [beq_eq_false_iff_ne]; exact heq
        clear heq
        go_wp2_with (first | (go_at_call 22; refine (HD.out).mono ?_; rintro e w' ⟨rfl, rfl⟩) | fail)
        go_roundw
        case rel => exact HR2.out
        case measure => rw [HL2.out, HL1.out, HL.out]; exact HLT.out
end Go.Proofs.Ytghlgegfokjgbaa
