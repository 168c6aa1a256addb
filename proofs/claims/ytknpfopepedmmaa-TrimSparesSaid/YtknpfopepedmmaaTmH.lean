/-
  Package trim: Core, walked; what Proof's answer is, plainly.
-/
import Derived.Test.YtknpfopepedmmaaTmE
import Derived.Test.YtknpfopepedmmaaOwnS
import Derived.Test.YtknpfopepedmmaaTmG
namespace Go.Proofs.Ytknpfopepedmmaa
open Go Go.ChangeShapes Go.WideShapes Go.ChangeAt Go.RowKit Go.Maps
set_option linter.unusedVariables false
set_option linter.unusedSimpArgs false
theorem usedP_lt {og : List (List Int)} {xs : List Stp} {goal : List Int} : ∀ i ∈ usedP og xs goal, i < og.length := fun i hi => (mem_usedU.1 hi).2.1
theorem usedP_up {og : List (List Int)} {xs : List Stp} {goal : List Int} : (usedP og xs goal).Pairwise (· < ·) := usedU_up _ _ _
theorem up_len {R : List Nat} {n : Nat} (hu : R.Pairwise (· < ·)) (h : ∀ i ∈ R, i < n) : R.length ≤ n := by
  have nd : R.Nodup := hu.imp fun h => by omega
  have := nd.length_le_of_subset (l₂ := List.range n) (fun j hj => List.mem_range.2 (h j hj))
  simpa using this
theorem usedP_len {og : List (List Int)} {xs : List Stp} {goal : List Int} : (usedP og xs goal).length ≤ og.length := up_len usedP_up usedP_lt
theorem pick_len {l : List (List Int)} {R : List Nat} : (pick_ l R).length = R.length := by unfold pick_; exact List.length_map _
theorem pick_snoc {l : List (List Int)} {R : List Nat} {k : Nat} (hk : k < R.length) : pick_ l (R.take (k + 1)) = pick_ l (R.take k) ++ [l.getD (R.getD k 0) []] := by
  unfold pick_
  rw [take_nextL 0 hk, List.map_append]; rfl
theorem natI_getD {R : List Nat} {i : Nat} (hi : i < R.length) : (natI R).getD i 0 = ((R.getD i 0 : Nat) : Int) := by
  unfold natI
  rw [List.getD_eq_getElem?_getD, List.getElem?_map, List.getD_eq_getElem?_getD, List.getElem?_eq_getElem hi]; rfl
/-- The places of the steps that are kept. -/
noncomputable def placeP (og : List (List Int)) (xs : List Stp) (goal : List Int) : List Nat := (keptU og.length (needP og xs goal) (trEnd og xs).ws.length).map fun i => (trEnd og xs).ts.getD (i - og.length) 0
theorem kept_rise {og : List (List Int)} {xs : List Stp} {goal : List Int} (h : TrFin og xs goal) : RiseP xs (keptP og xs goal) (placeP og xs goal) := by
  obtain ⟨⟨L, G, hT⟩, -⟩ := h
  obtain ⟨ts, hts⟩ : ∃ ts, ts = (trEnd og xs).ts := ⟨_, rfl⟩
  have hup := hT.up
  have hlt := hT.lt
  have hng := hT.ng
  have hle := hT.le
  have hwl := hT.wl
  rw [← hts] at hup hlt hng hle
  have hlen : (trEnd og xs).ws.length = og.length + ts.length := by rw [hwl, hle, List.length_append, List.length_map]
  have hin : ∀ i ∈ keptU og.length (needP og xs goal) (trEnd og xs).ws.length, i - og.length < ts.length := fun i hi => by
    obtain ⟨a, b, -⟩ := mem_keptU.1 hi
    omega
  have hget : ∀ q (hq : q < ts.length), ts.getD q 0 = ts[q] := fun q hq => by rw [List.getD_eq_getElem?_getD, List.getElem?_eq_getElem hq]; rfl
  unfold placeP keptP stepsOf
  rw [← hts]
  refine ⟨?_, fun p hp => ?_, ?_⟩
  · rw [List.pairwise_map]
    refine (keptU_up og.length (needP og xs goal) (trEnd og xs).ws.length).imp_of_mem fun {a b} ha hb hab => ?_
    obtain ⟨-, a2, -⟩ := mem_keptU.1 ha
    obtain ⟨-, b2, -⟩ := mem_keptU.1 hb
    rw [hget _ (hin a ha), hget _ (hin b hb)]
    exact List.pairwise_iff_getElem.1 hup _ _ (hin a ha) (hin b hb) (by omega)
  · obtain ⟨i, hi, rfl⟩ := List.mem_map.1 hp
    have hm : ts.getD (i - og.length) 0 ∈ ts := by rw [hget _ (hin i hi)]; exact List.getElem_mem _
    exact ⟨hlt _ hm, hng _ hm⟩
  · rw [List.map_map]
    refine List.map_congr_left fun i hi => ?_
    obtain ⟨-, a2, -⟩ := mem_keptU.1 hi
    have hq := hin i hi
    show (false, (og ++ ts.map (stC xs)).getD i []) = (false, stC xs (ts.getD (i - og.length) 0))
    rw [getD_append_r a2, hget _ hq, List.getD_eq_getElem?_getD, List.getElem?_map, List.getElem?_eq_getElem hq]; rfl
theorem trim_base {og : List (List Int)} {xs : List Stp} {goal : List Int} (h : TrFin og xs goal) {base : List (List Int)} (hb : ∀ i ∈ usedP og xs goal, og.getD i [] ∈ base) : chkD base (keptP og xs goal) goal = -1 := by
  obtain ⟨⟨L, G, hT⟩, hy⟩ := h
  have := trim_chk hT hy (base := base) (by rw [← hT.wl]; exact hb)
  rw [← hT.wl, hT.le] at this
  exact this
theorem kept_ok {og : List (List Int)} {xs : List Stp} {goal : List Int} (h : TrFin og xs goal) (hx : ∀ x ∈ xs, okX x) : (∀ x ∈ keptP og xs goal, okX x) ∧ (keptP og xs goal).length ≤ xs.length := by
  obtain ⟨h1, h2, h3⟩ := kept_rise h
  refine ⟨fun x hx' => ?_, ?_⟩
  · rw [h3] at hx'
    obtain ⟨p, hp, rfl⟩ := List.mem_map.1 hx'
    have hm : xs.getD p (false, []) ∈ xs := by rw [List.getD_eq_getElem?_getD, List.getElem?_eq_getElem (h2 p hp).1]; exact List.getElem_mem _
    have h9 : okX (xs.getD p (false, [])) := hx _ hm
    exact h9
  · rw [h3, List.length_map]
    exact up_len h1 fun p hp => (h2 p hp).1
theorem pick_mem {og : List (List Int)} {R : List Nat} {i : Nat} (hi : i ∈ R) : og.getD i [] ∈ pick_ og R := List.mem_map.2 ⟨i, hi, rfl⟩
theorem pick_sub {og : List (List Int)} {R : List Nat} (hR : ∀ i ∈ R, i < og.length) : ∀ d ∈ pick_ og R, d ∈ og := fun d hd => by
  obtain ⟨i, hi, rfl⟩ := List.mem_map.1 hd
  exact getD_in (hR i hi)
theorem chkD_nat {og : List (List Int)} {xs : List Stp} {goal : List Int} (hc : ¬ chkD og xs goal = -1) : ∃ z : Nat, chkD og xs goal = (z : Int) := by
  have hge : 0 ≤ chkD og xs goal := by
    unfold chkD at hc ⊢
    split
    · assumption
    · rename_i h1
      rw [if_neg h1] at hc
      split
      · omega
      · rename_i h2
        rw [if_neg h2] at hc
        exact absurd rfl hc
  exact ⟨(chkD og xs goal).toNat, by omega⟩
/-- What Core answers. -/
def CoreQ (w : World) (og : List (List Int)) (xs : List Stp) (goal : List Int) (e : Ending) (w' : World) : Prop :=
  ∃ v', e = .returned (.tuple #[v', .bool (decide (chkD og xs goal = -1))]) ∧ IntsS w' v' (if chkD og xs goal = -1 then pick_ og (usedP og xs goal) else []) ∧ Below w.heap.size w w'
set_option maxHeartbeats 4000000 in
set_option maxRecDepth 100000 in
theorem trim_Core {w : World} {v s u : Value} {og : List (List Int)} {xs : List Stp} {goal : List Int} (h : IntsS w v og) (hs : StpS w s xs) (hu : Ints w u goal) (ho : ∀ d ∈ og, Lit30s d ∧ d.length ≤ 1000000) (hx : ∀ x ∈ xs, okX x) (hl : og.length ≤ 100) (hl2 : xs.length ≤ 100) (hg : Lit30s goal) (hgl : goal.length ≤ 1000000) :
    Calls Try.prog 33 #[v, s, u] w (CoreQ w og xs goal) := by
  have HPR := Lib.hid (trim_Proof h hs hu ho hx hl hl2 hg hgl)
  have HLT := Lib.hid (usedP_lt (og := og) (xs := xs) (goal := goal))
  obtain ⟨A, cap, hve, -, -⟩ := h.form
  obtain ⟨sa, sc, hse, -, -⟩ := hs.form
  obtain ⟨ua, uc, hue, -, -⟩ := hu.form2
  have HV := Lib.hid h
  have HO : Hid (∀ d ∈ og, d.length ≤ 1000000) := Lib.hid fun d hd => (ho d hd).2
  obtain ⟨n, hn⟩ : ∃ n, n = og.length := ⟨_, rfl⟩
  have HN := Lib.hid hn
  have HUL := Lib.hid (usedP_len (og := og) (xs := xs) (goal := goal))
  have HL9 := Lib.hid hl
  rw [← hn] at hve
  generalize xs.length = nl at hse
  generalize goal.length = gl at hue
  subst hve hse hue
  clear h hs hu ho hx hl hl2 hg hgl hn
  go_enter Try.func33, Try.ntmps33
  go_wp2_with fail
  refine HPR.out.mono ?_
  rintro e w1 ⟨uv, sv, rfl, hb1, hy, hno⟩
  have HB1 := Lib.hid hb1
  obtain ⟨rb, hrb⟩ : ∃ rb, rb = w1.heap.size := ⟨_, rfl⟩
  by_cases hc : chkD og xs goal = -1
  · obtain ⟨hi, hst, -⟩ := hy hc
    obtain ⟨R, hR⟩ : ∃ R, R = usedP og xs goal := ⟨_, rfl⟩
    rw [← hR] at hi HLT HUL
    obtain ⟨ia, ic, hiv, -, -⟩ := hi.form2
    obtain ⟨ka, kc, hsv, -, -⟩ := hst.form
    obtain ⟨m, hm⟩ : ∃ m, m = R.length := ⟨_, rfl⟩
    rw [natI_len, ← hm] at hiv
    generalize (keptP og xs goal).length = kn at hsv
    subst hiv hsv
    obtain ⟨wB, hwB⟩ : ∃ wB, wB = w1.alloc (.cells #[.slice ia m ic, .slice ka kn kc, .int .i64 (-1)] 60) := ⟨_, rfl⟩
    have hbB : Below w1.heap.size w1 wB := by rw [hwB]; exact below_new1 w1 _
    have c0 : wB.cell? ⟨rb, 0, none⟩ = some (.slice ia m ic) := by rw [hwB, hrb]; exact cellsNew w1 #[.slice ia m ic, .slice ka kn kc, .int .i64 (-1)] 60 0 _ rfl
    have c2 : wB.cell? ⟨rb, 2, none⟩ = some (.int .i64 (-1)) := by rw [hwB, hrb]; exact cellsNew w1 #[.slice ia m ic, .slice ka kn kc, .int .i64 (-1)] 60 2 _ rfl
    have HI := Lib.hid (hi.below hbB)
    have HVB := Lib.hid (HV.out.below (HB1.out.trans (hbB.mono HB1.out.size)))
    have HBB := Lib.hid (HB1.out.trans (hbB.mono HB1.out.size))
    have HM := Lib.hid hm
    have HC := Lib.hid hc
    have HR := Lib.hid hR
    have hm9 : m ≤ 100 := by have := HUL.out; have := HL9.out; omega
    rw [hc]
    clear hy hno hc hi hst hbB hb1 hm hR
    go_wp2_with fail
    rw [← hrb, ← hwB]
    clear hrb hwB
    go_loopw [6, 21] (fun out i wr => ∃ k : Nat, k ≤ m ∧ i = .int .i64 (k : Nat) ∧ OwnS wB wr out (pick_ og (R.take k))) (fun _ i _ => m - (intOf i).toNat)
    case atStart => exact ⟨0, Nat.zero_le _, rfl, OwnS.start wB⟩
    case round =>
      obtain ⟨k, hk, rfl, hO⟩ := hrel
      by_cases hlt : (k : Int) < (m : Int)
      · have hkr : k < R.length := by have := HM.out; omega
        obtain ⟨j, hj⟩ : ∃ j, j = R.getD k 0 := ⟨_, rfl⟩
        have hjm : j ∈ R := by rw [hj, List.getD_eq_getElem?_getD, List.getElem?_eq_getElem hkr]; exact List.getElem_mem hkr
        have hjl := HLT.out j hjm
        obtain ⟨ib, ioff, icap, hiv, i9⟩ := HI.out.at2 (k := k) (by rw [natI_len]; exact hkr)
        injection hiv with e7 e8 e9
        subst e7
        have i0 : wB.cell? ⟨ib, ioff + k, none⟩ = some (.int .i64 (j : Nat)) := by rw [i9, natI_getD hkr, hj]
        have i0 := cellB i0 hO.old
        obtain ⟨b, off, cap', u, he, hcell, hint⟩ := HVB.out.at_ hjl
        injection he with e1 e2 e3
        subst e1
        have q0 := cellB hcell hO.old
        have hnx : pick_ og (R.take (k + 1)) = pick_ og (R.take k) ++ [og.getD j []] := by rw [pick_snoc hkr, hj]
        have hdl : (og.getD j []).length ≤ 1000000 := HO.out _ (getD_in hjl)
        obtain ⟨d, hd⟩ : ∃ d, d = og.getD j [] := ⟨_, rfl⟩
        rw [← hd] at hint hnx hdl
        have hCL := slices_Clone (hint.below hO.old) (by omega)
        obtain ⟨xa, xc, hue, -, -⟩ := hint.form2
        have hlk : (pick_ og (R.take k)).length = k := by rw [pick_len, List.length_take]; omega
        obtain ⟨us, o1, o2, o3, o4⟩ := hO
        rw [hlk] at o1
        have HCL := Lib.hid hCL
        have HNX := Lib.hid hnx
        have HK := Lib.hid hlk
        have O1 := Lib.hid o1
        have O2 := Lib.hid o2
        have O3 := Lib.hid o3
        have O4 := Lib.hid o4
        obtain ⟨na, nc, hne⟩ := row_formI o1
        have hjn : (j : Int) < (n : Int) := by have := HN.out; omega
        generalize d.length = dl at hue
        subst hue hne
        clear hint hcell hkr e2 e3 e8 e9 i9 hlk o1 o2 o3 o4 hCL hnx hdl hjl hjm hj hd
        go_wp2_with fail
        refine HCL.out.mono ?_
        rintro e w2 ⟨uz, rfl, hp⟩
        obtain ⟨va, vc, rfl⟩ := clone_form hp
        have HP := Lib.hid hp
        have HRW : Hid (Row (w2.alloc (.cells #[.slice va d.length vc] 28)) 28 1 (.slice na k nc) k us) := Lib.hid ((O1.out.chg (S := fun _ => False) (Chg.of_below hp.2.2) (fun _ _ h => h)).alloc _)
        clear hp
        go_wp2_with (at_builtin; refine wpList_app rfl _ _ _ rfl 28 (.slice none 0 0) 1 24 Try.underlying26 infoL rfl (by decide) (.slice na k nc) k us rfl ?ho w2.heap.size 0 1 1 [.slice va d.length vc] rfl rfl ?hn ?hs ?c1 ?c2 ?_)
        case ho => exact HRW.out
        case hn => exact cellNew _ _ _ _ rfl
        case hs => exact oneCell1 rfl
        case c1 => unfold maxLen; omega
        case c2 => omega
        intro v' w3 hp3
        have hfin : OwnS wB w3 v' (pick_ og (R.take (k + 1))) := by
          rw [HNX.out]
          have hb := HP.out.2.2
          have hlk := HK.out
          refine OwnS.app (wr := w2) (us := us) (by rw [hlk]; exact O1.out.chg (S := fun _ => False) (Chg.of_below hb) (fun _ _ h => h)) O2.out (O3.out.below hb) (O4.out.trans (hb.mono O4.out.size)) HP.out.1.ints (fun g hg => ⟨fun e => ?_, HP.out.1.lt g hg⟩) (by rw [hlk]; exact hp3)
          have q1 := HP.out.2.1 g hg
          have q2 := O1.out.lt g e
          omega
        have HF := Lib.hid hfin
        clear hp3 hfin
        go_wp2
        go_roundw
        case rel => exact ⟨k + 1, by omega, by go_num, HF.out⟩
        case measure => simp [intOf]; omega
      · have HF : Hid (pick_ og (R.take k) = pick_ og (usedP og xs goal)) := Lib.hid (by rw [List.take_of_length_le (by have := HM.out; omega), HR.out])
        have HZ := Lib.hid hO.intsS
        have HB9 := Lib.hid (HBB.out.trans (hO.old.mono HBB.out.size))
        clear hO
        go_wp2
        go_ret2
        exact ⟨_, by rw [HC.out]; rfl, by rw [if_pos HC.out, ← HF.out]; exact HZ.out, HB9.out⟩
  · obtain ⟨rfl, rfl⟩ := hno hc
    have hd : decide (chkD og xs goal = -1) = false := decide_eq_false hc
    have HD : Hid (decide (chkD og xs goal = -1) = false) := Lib.hid hd
    have HC := Lib.hid hc
    have HE : Hid ((if chkD og xs goal = -1 then pick_ og (usedP og xs goal) else []) = []) := Lib.hid (if_neg hc)
    obtain ⟨z, hz⟩ := chkD_nat hc
    have HZ := Lib.hid hz
    obtain ⟨wB, hwB⟩ : ∃ wB, wB = w1.alloc (.cells #[.slice none 0 0, .slice none 0 0, .int .i64 (z : Nat)] 60) := ⟨_, rfl⟩
    have hbB : Below w1.heap.size w1 wB := by rw [hwB]; exact below_new1 w1 _
    have c2 : wB.cell? ⟨rb, 2, none⟩ = some (.int .i64 (z : Nat)) := by rw [hwB, hrb]; exact cellsNew w1 #[.slice none 0 0, .slice none 0 0, .int .i64 (z : Nat)] 60 2 _ rfl
    have HBB := Lib.hid (HB1.out.trans (hbB.mono HB1.out.size))
    rw [hz]
    clear hy hno hc hbB hb1 hd hz
    go_wp2_with fail
    rw [← hrb, ← hwB]
    clear hrb hwB
    go_wp2
    go_ret2
    exact ⟨_, by rw [HD.out]; rfl, by rw [HE.out]; exact intsS_nil _, HBB.out⟩
end Go.Proofs.Ytknpfopepedmmaa
