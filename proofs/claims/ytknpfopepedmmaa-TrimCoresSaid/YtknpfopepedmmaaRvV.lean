/-
  Package rup: Check, walked.
-/
import Derived.Test.YtknpfopepedmmaaRvQ
namespace Go.Proofs.Ytknpfopepedmmaa
open Go Go.ChangeShapes Go.WideShapes Go.ChangeAt Go.RowKit Go.Maps
set_option linter.unusedVariables false
set_option linter.unusedSimpArgs false
theorem thereL_rep : ∀ (l : List (List Int)), thereL l (List.replicate l.length false) = l
  | [] => rfl
  | c :: l => by
    have e : thereL (c :: l) (false :: List.replicate l.length false) = c :: thereL l (List.replicate l.length false) := rfl
    rw [List.length_cons, List.replicate_succ, e, thereL_rep l]
theorem Mir.rem_some {S : RS} {l : List (List Int)} {gone : List Bool} (h : Mir S l gone) (hS : Set_ S S.cl.length) {c : List Int} {k : Nat} (hk : seekL l gone c = some k) : Mir (S.rem (normC c)) l (gone.set k true) ∧ remR (thereL l gone) c = some (thereL l (gone.set k true)) ∧ (S.seek (normC c)).isSome = true ∧ k < l.length := by
  have e := h.seek c
  rw [hk] at e
  have hkl : k < l.length := by rw [← h.size]; exact (seek_spec e).1
  refine ⟨by rw [(seekI_some e).2.2]; exact h.drop hS hkl, by rw [rem_there, hk]; rfl, by rw [e]; rfl, hkl⟩
theorem Mir.rem_none {S : RS} {l : List (List Int)} {gone : List Bool} (h : Mir S l gone) {c : List Int} (hk : seekL l gone c = none) : remR (thereL l gone) c = none ∧ (S.seek (normC c)).isSome = false ∧ S.rem (normC c) = S := by
  have e := h.seek c
  rw [hk] at e
  exact ⟨by rw [rem_there, hk]; rfl, by rw [e]; rfl, (seekI_none e).2.2⟩
/-- Between two steps of a proof. -/
def ChR (w : World) (r : Nat) (goal : List Int) (ans : Int) (rest : List Stp) (k : Nat) (wr : World) : Prop :=
  ∃ S L G, OwnX w wr r S (fun _ => False) ∧ Mir S L G ∧ S.cl.length ≤ 1000 + k ∧ chkF (thereL L G) goal rest k = ans
set_option maxHeartbeats 8000000 in
set_option maxRecDepth 100000 in
theorem rup_Check {w : World} {v s u : Value} {og : List (List Int)} {xs : List Stp} {goal : List Int} (h : IntsS w v og) (hs : StpS w s xs) (hu : Ints w u goal) (ho : ∀ d ∈ og, Lit30s d ∧ d.length ≤ 1000000) (hx : ∀ x ∈ xs, okX x) (hl : og.length ≤ 1000) (hl2 : xs.length ≤ 1000) (hg : Lit30s goal) (hgl : goal.length ≤ 1000000) :
    Calls Try.prog 23 #[v, s, u] w fun e w' => e = .returned (.int .i64 (chkD og xs goal)) ∧ Below w.heap.size w w' := by
  have hmf : ∀ (fn : Fn) (first cap : Array Value) (w : World), (Instr.makeFunc fn first cap).run Try.prog w = .ok (.func fn first cap) w := fun _ _ _ _ => rfl
  have HNW := Lib.hid (ownX_new w)
  obtain ⟨A, cap, hve, -, -⟩ := h.form
  obtain ⟨sa, sc, hse, -, -⟩ := hs.form
  obtain ⟨ua, uc, hue, -, -⟩ := hu.form2
  have HV := Lib.hid h
  have HS := Lib.hid hs
  have HU := Lib.hid hu
  have HO := Lib.hid ho
  have HX := Lib.hid hx
  have HG := Lib.hid hg
  have HGL := Lib.hid hgl
  obtain ⟨ans, hans⟩ : ∃ ans, ans = chkD og xs goal := ⟨_, rfl⟩
  rw [← hans]
  have HA := Lib.hid hans
  obtain ⟨m, hm⟩ : ∃ m, m = og.length := ⟨_, rfl⟩
  obtain ⟨n, hn⟩ : ∃ n, n = xs.length := ⟨_, rfl⟩
  have HM := Lib.hid hm
  have HN := Lib.hid hn
  rw [← hm] at hve hl
  rw [← hn] at hse hl2
  generalize goal.length = gl at hue
  subst hve hse hue
  clear h hs hu ho hx hg hgl hans hm hn
  go_enter Try.func23, Try.ntmps23
  go_wp2_with fail
  refine HNW.out.mono ?_
  rintro e w1 ⟨r, rfl, h1⟩
  have H1 := Lib.hid h1
  clear h1 HNW
  go_wp2_with fail
  go_loopw [21] (fun i wr => ∃ k : Nat, k ≤ m ∧ i = .int .i64 (k : Nat) ∧ ∃ S, OwnX w wr r S (fun _ => False) ∧ Mir S (og.take k) (List.replicate k false) ∧ S.cl.length = k) (fun i _ => m - (intOf i).toNat)
  case atStart => exact ⟨0, Nat.zero_le _, rfl, RS0, H1.out, Mir.zero, rfl⟩
  case round =>
    obtain ⟨k, hk, rfl, S, hOX, hMir, hSl⟩ := hrel
    have HOX := Lib.hid hOX
    have HMR := Lib.hid hMir
    have HSL := Lib.hid hSl
    by_cases hlt : (k : Int) < (m : Int)
    · have hkn : k < og.length := by have := HM.out; omega
      obtain ⟨b, off, cap2, e, hv, q0, he⟩ := (HV.out.below hOX.b).at_ hkn
      injection hv with e1 e2 e3
      subst e1
      obtain ⟨c, hc⟩ : ∃ c, c = og.getD k [] := ⟨_, rfl⟩
      rw [← hc] at he
      have hmem : c ∈ og := by rw [hc]; exact getD_in hkn
      have HAD := Lib.hid (hOX.add (fun g hg => hg.elim) (by rw [hSl]; omega) he (HO.out c hmem).1 (HO.out c hmem).2)
      rw [hSl] at HAD
      have htk : og.take (k + 1) = og.take k ++ [c] := by rw [List.take_succ_eq_append_getElem hkn, hc, List.getD_eq_getElem?_getD, List.getElem?_eq_getElem hkn]; rfl
      have HMR2 : Hid (Mir (S.add (normC c)) (og.take (k + 1)) (List.replicate (k + 1) false) ∧ (S.add (normC c)).cl.length = k + 1) := Lib.hid ⟨by
        rw [htk, List.replicate_succ']
        exact hMir.add hOX.set (HO.out c hmem).1, by
        have := (add_law hOX.set (lits_normC (HO.out c hmem).1) (nodup_normC c)).2.1
        rw [this, List.length_append, hSl]; rfl⟩
      obtain ⟨ea, ec, hee, -, -⟩ := he.form2
      generalize c.length = el at hee
      subst hee
      clear hOX hMir hSl e2 e3 he hc hmem htk hkn
      go_wp2_with fail
      refine HAD.out.mono ?_
      rintro e w2 ⟨rfl, h2, -⟩
      have H2 := Lib.hid h2
      clear h2
      go_wp2
      go_roundw
      case rel => exact ⟨k + 1, by omega, by go_num, _, H2.out, HMR2.out⟩
      case measure => simp [intOf]; omega
    · have hkm : k = m := by omega
      have HR0 : Hid (ChR w r goal ans (xs.drop 0) 0 wr) := Lib.hid (by
        refine ⟨S, og, List.replicate og.length false, hOX, ?_, by omega, ?_⟩
        · have h1 := hMir
          rw [hkm, HM.out, List.take_length] at h1
          exact h1
        · rw [thereL_rep, List.drop_zero, HA.out, chkF_zero])
      clear hOX hMir hSl hkm
      go_wp2
      go_loopw [31] (fun i wx => ∃ k : Nat, k ≤ n ∧ i = .int .i64 (k : Nat) ∧ ChR w r goal ans (xs.drop k) k wx) (fun i _ => n - (intOf i).toNat)
      case atStart => exact ⟨0, Nat.zero_le _, rfl, HR0.out⟩
      case round =>
        obtain ⟨k, hk, rfl, S, L, G, hOX, hMir, hSl, hck⟩ := hrel
        have HMR := Lib.hid hMir
        have HSL := Lib.hid hSl
        by_cases hlt : (k : Int) < (n : Int)
        · have hkn : k < xs.length := by have := HN.out; omega
          obtain ⟨b, off, cap2, u, hv, q0, q1, hu⟩ := HS.out.at_ hkn
          injection hv with e1 e2 e3
          subst e1
          have q0 := cellB q0 hOX.b
          have q1 := cellB q1 hOX.b
          obtain ⟨x, hx⟩ : ∃ x, x = xs.getD k (false, []) := ⟨_, rfl⟩
          rw [← hx] at q0 hu
          have hd : xs.drop k = x :: xs.drop (k + 1) := by rw [List.drop_eq_getElem_cons hkn, hx, List.getD_eq_getElem?_getD, List.getElem?_eq_getElem hkn]; rfl
          have hokx : okX x := HX.out x (by rw [hx, List.getD_eq_getElem?_getD, List.getElem?_eq_getElem hkn]; exact List.getElem_mem hkn)
          rw [hd] at hck
          obtain ⟨g, c⟩ := x
          have hu : Ints w u c := hu
          have q0 : wr.cell? ⟨b, off + k * 2, none⟩ = some (.bool g) := q0
          have hck : chkF (thereL L G) goal ((g, c) :: xs.drop (k + 1)) k = ans := hck
          have hokx : Lit30s c ∧ c.length ≤ 1000000 := hokx
          have HU2 := Lib.hid hu
          have HOK := Lib.hid hokx
          have HCK := Lib.hid hck
          have HOX := Lib.hid hOX
          obtain ⟨ua2, uc2, hue, -, -⟩ := hu.form2
          generalize c.length = cn at hue
          subst hue
          obtain ⟨bx, hbx⟩ : ∃ bx, bx = wr.heap.size := ⟨_, rfl⟩
          obtain ⟨wB, hwB⟩ : ∃ wB, wB = wr.alloc (.cells #[.bool g, .slice ua2 cn uc2] 52) := ⟨_, rfl⟩
          have hbB : Below wr.heap.size wr wB := by rw [hwB]; exact (Below.refl _ wr).alloc (Nat.le_refl _) _
          have hBlk : Blk wB bx 52 #[.bool g, .slice ua2 cn uc2] := by rw [hwB, hbx]; exact Blk.new _ _ _
          have hOB : OwnX w wB r S (fun g => g = bx) := (hOX.fresh (Y := fun g => g = bx) (fun g hg => .inr (by omega))).below hbB
          have hXB : ∀ g, g = bx → g < wB.heap.size := fun g hg => by rw [hg]; exact hBlk.lt
          have huB : Ints wB (.slice ua2 cn uc2) c := (hu.below hOX.b).below hbB
          have hS9 : S.cl.length ≤ 3000 := by omega
          have HBLK := Lib.hid hBlk
          cases g with
          | true =>
            have HRM := Lib.hid (hOB.rem hXB (by omega) huB hokx.1 hokx.2)
            have HSS := Lib.hid hOX.set
            clear hOX hMir hSl e2 e3 hx hd hokx hu hkn hck hbB hBlk hOB hXB huB
            go_wp2_with fail
            rw [← hwB]
            refine HRM.out.mono ?_
            rintro e w5 ⟨rfl, h5, -⟩
            rcases seekL_spec c L G HMR.out.len with ⟨hs0, -⟩ | ⟨kk, hs0, -, -, -⟩
            · obtain ⟨r1, r2, r3⟩ := HMR.out.rem_none hs0
              have HF : Hid (ans = (k : Int)) := Lib.hid (by rw [← HCK.out, chkF_gone_none r1])
              have HB5 := Lib.hid h5.b
              rw [r2]
              generalize seekI S (normC c) = sq
              clear h5 r1 r2 r3 hs0 hwB
              go_wp2
              try rw [Exit.noGoto_ret]
              go_ret
              exact ⟨by rw [HF.out]; rfl, HB5.out⟩
            · obtain ⟨r1, r2, r3, r4⟩ := HMR.out.rem_some HSS.out hs0
              have HC5 : Hid (ChR w r goal ans (xs.drop (k + 1)) (k + 1) w5) := Lib.hid (by
                refine ⟨_, _, _, h5.weak (fun g hg => hg.elim), r1, by rw [(set_rem HSS.out _).2]; have := HSL.out; omega, ?_⟩
                have := HCK.out
                rw [chkF_gone_some r2] at this
                exact this)
              rw [r3]
              generalize seekI S (normC c) = sq
              clear h5 r1 r2 r3 r4 hs0 hwB
              go_wp2
              go_roundw
              case rel => exact ⟨k + 1, by omega, by go_num, HC5.out⟩
              case measure => simp [intOf]; omega
          | false =>
            have HWY := Lib.hid (hOB.why hXB (by omega) huB hokx.1 hokx.2)
            have HUB := Lib.hid huB
            have HXB := Lib.hid hXB
            clear hOX hMir hSl e2 e3 hx hd hokx hu hkn hck hbB hBlk hOB hXB huB
            go_wp2_with fail
            rw [← hwB]
            refine HWY.out.mono ?_
            rintro e w5 ⟨v5, is, R, rfl, hy, h5, hc5, hrow, hvo⟩
            cases is with
            | false =>
              have hop : OpenS S c := Classical.byContradiction fun hn => by have := hy.yes.2 hn; cases this
              have HF : Hid (ans = (k : Int)) := Lib.hid (by rw [← HCK.out, chkF_no (HMR.out.open_.1 hop)])
              have HB5 := Lib.hid h5.b
              clear hy h5 hc5 hrow hvo hop hwB
              go_wp2
              try rw [Exit.noGoto_ret]
              go_ret
              exact ⟨by rw [HF.out]; rfl, HB5.out⟩
            | true =>
              have hop : ¬ OpenN (thereL L G) c := fun hn => (hy.yes.1 rfl) (HMR.out.open_.2 hn)
              have HCK2 : Hid (chkF (thereL L G ++ [c]) goal (xs.drop (k + 1)) (k + 1) = ans) := Lib.hid (by
                have := HCK.out
                rw [chkF_yes hop] at this
                exact this)
              have hB5 := HBLK.out.chg hc5 (fun e => e.2 rfl)
              have q5 : w5.cell? ⟨bx, 1, none⟩ = some (.slice ua2 cn uc2) := hB5.cell 1
              have h5' : OwnX w w5 r S (fun _ => False) := h5.weak (fun g hg => hg.elim)
              have HAD := Lib.hid (h5'.add (fun g hg => hg.elim) (by omega) (HU2.out.below h5'.b) HOK.out.1 HOK.out.2)
              have HM2 : Hid (Mir (S.add (normC c)) (L ++ [c]) (G ++ [false]) ∧ (S.add (normC c)).cl.length ≤ 1000 + (k + 1) ∧ thereL (L ++ [c]) (G ++ [false]) = thereL L G ++ [c]) := Lib.hid ⟨HMR.out.add h5'.set HOK.out.1, by
                have := (add_law h5'.set (lits_normC HOK.out.1) (nodup_normC c)).2.1
                rw [this, List.length_append, List.length_singleton]; have := HSL.out; omega, thereL_snoc c L G HMR.out.len⟩
              rw [hbx] at q5
              clear hy h5 hc5 hrow hvo hop hB5 h5' hwB hbx
              go_wp2_with fail
              refine HAD.out.mono ?_
              rintro e w6 ⟨rfl, h6, -⟩
              have HC6 : Hid (ChR w r goal ans (xs.drop (k + 1)) (k + 1) w6) := Lib.hid ⟨_, _, _, h6, HM2.out.1, HM2.out.2.1, by rw [HM2.out.2.2]; exact HCK2.out⟩
              clear h6
              go_wp2
              go_roundw
              case rel => exact ⟨k + 1, by omega, by go_num, HC6.out⟩
              case measure => simp [intOf]; omega
        · have hck : chkF (thereL L G) goal [] k = ans := by
            rw [List.drop_eq_nil_of_le (by have := HN.out; omega)] at hck
            exact hck
          have hkn : k = n := by omega
          have HCK := Lib.hid hck
          have HWY := Lib.hid (hOX.why (fun g hg => hg.elim) (by omega) (HU.out.below hOX.b) HG.out HGL.out)
          clear hOX hMir hSl hck
          go_wp2_with fail
          refine HWY.out.mono ?_
          rintro e w5 ⟨v5, is, R, rfl, hy, h5, hc5, hrow, hvo⟩
          have HB5 := Lib.hid h5.b
          cases is with
          | false =>
            have hop : OpenS S goal := Classical.byContradiction fun hn => by have := hy.yes.2 hn; cases this
            have HF : Hid (ans = (n : Int)) := Lib.hid (by rw [← HCK.out, chkF_end_open (HMR.out.open_.1 hop), hkn])
            clear hy h5 hc5 hrow hvo hop
            go_wp2
            go_ret
            exact ⟨by rw [HF.out]; rfl, HB5.out⟩
          | true =>
            have HF : Hid (ans = -1) := Lib.hid (by rw [← HCK.out, chkF_end (fun hn => (hy.yes.1 rfl) (HMR.out.open_.2 hn))])
            clear hy h5 hc5 hrow hvo
            go_wp2
            go_ret
            exact ⟨by rw [HF.out]; rfl, HB5.out⟩
end Go.Proofs.Ytknpfopepedmmaa
