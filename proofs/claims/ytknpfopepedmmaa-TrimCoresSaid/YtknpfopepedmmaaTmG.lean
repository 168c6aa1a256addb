/-
  The document's answer for layer 26, walked.
-/
import Derived.Test.YtknpfopepedmmaaRwC
import Derived.Test.YtknpfopepedmmaaTmB
import Derived.Test.YtknpfopepedmmaaInts
namespace Go.Proofs.Ytknpfopepedmmaa
open Go Go.ChangeShapes Go.WideShapes Go.ChangeAt Go.RowKit Go.Maps
set_option linter.unusedVariables false
set_option linter.unusedSimpArgs false
/-! ### Lists -/
theorem sameI_self {w : World} {u v : Value} {xs : List Int} (h : Ints w u xs) (g : Ints w v xs) : Calls Try.prog 36 #[u, v] w fun e w' => e = .returned (.bool true) ∧ Quiet w w' := by
  have := r01_Same h g
  rw [sameB_self] at this
  exact this
set_option maxHeartbeats 1000000 in
theorem Lists_same {w : World} {u v : Value} {xss : List (List Int)} (h : IntsS w u xss) (g : IntsS w v xss) :
    Calls Try.prog 35 #[u, v] w fun e w' => e = .returned (.bool true) ∧ Quiet w w' := by
  obtain ⟨a, cap, hu, k1, k2⟩ := h.form
  obtain ⟨a2, cap2, hv, -, -⟩ := g.form
  obtain ⟨n, hn⟩ : ∃ n, n = xss.length := ⟨_, rfl⟩
  rw [← hn] at hu hv k1
  subst hu hv
  have hm : n ≤ 9223372036854775807 := Nat.le_trans k1 k2
  have HS := Lib.hid h
  have HG := Lib.hid g
  have HN := Lib.hid hn
  clear h g hn k1 k2
  go_enter Try.func35, Try.ntmps35
  go_wp2
  go_loopw [5] (fun i wr => ∃ k : Nat, k ≤ n ∧ i = .int .i64 k ∧ Quiet w wr) (fun i _ => n - (intOf i).toNat)
  case atStart => exact ⟨0, Nat.zero_le _, rfl, 0, rfl⟩
  case round =>
    obtain ⟨k, hk, rfl, hq⟩ := hrel
    by_cases hlt : (k : Int) < (n : Int)
    · have hkn : k < xss.length := by have := HN.out; omega
      obtain ⟨b, off, ua, uc, rfl, hcell, hint⟩ := HS.out.row hq.below hkn
      obtain ⟨b2, off2, ua2, uc2, rfl, hcell2, hint2⟩ := HG.out.row hq.below hkn
      have H1 := fun m : Nat => sameI_self (w := wr.drewN m) (hint.drewN m) (hint2.drewN m)
      obtain ⟨c, hc⟩ : ∃ c, c = xss.getD k [] := ⟨_, rfl⟩
      rw [← hc] at hcell hcell2 H1
      obtain ⟨cn, hcn⟩ : ∃ cn, cn = c.length := ⟨_, rfl⟩
      rw [← hcn] at hcell hcell2 H1
      have H1 := Lib.hid H1
      have HQ := Lib.hid hq
      clear hint hint2 hkn hc hcn hq
      go_wp2
      go_quiet ((go_at_call 36; exact Calls.quiet_of ((H1.out _).mono fun _ _ h => h)))
      go_wp2
      go_roundw
      case rel => exact ⟨k + 1, by omega, by go_num, by obtain ⟨m, rfl⟩ := HQ.out; exact ⟨_, World.drewN_drewN _ _ _⟩⟩
      case measure => simp [intOf]; omega
    · have HQ := Lib.hid hq
      clear hq
      go_wp2
      go_ret
      exact ⟨rfl, HQ.out⟩
/-! ### Some -/
set_option maxHeartbeats 4000000 in
set_option maxRecDepth 100000 in
theorem r26_Some {w0 w : World} {v : Value} {l : List (List Int)} {iv_ : Value} {R : List Nat} (hl : IntsT w0 w v l) (hl9 : l.length ≤ 1000000) (hi : Ints w iv_ (natI R)) (hR : ∀ j ∈ R, j < l.length) (hup : R.Pairwise (· < ·)) :
    Calls Try.prog 34 #[v, iv_] w fun e w' => ∃ v', e = .returned (.tuple #[v', .bool true]) ∧ OwnT w0 w' v' (pick_ l R) ∧ Below w.heap.size w w' := by
  have hRl : R.length ≤ l.length := by
    have nd : R.Nodup := hup.imp fun h => by omega
    have := nd.length_le_of_subset (l₂ := List.range l.length) (fun j hj => List.mem_range.2 (hR j hj))
    simpa using this
  obtain ⟨A, cap, us, hv, k1, k2, hsrc, helt, hbw⟩ := hl
  obtain ⟨ia, ic, hiv, -, -⟩ := hi.form2
  obtain ⟨n, hn⟩ : ∃ n, n = l.length := ⟨_, rfl⟩
  obtain ⟨m, hm⟩ : ∃ m, m = R.length := ⟨_, rfl⟩
  rw [show (natI R).length = m by rw [hm]; exact List.length_map _] at hiv
  rw [← hn] at hv k1 hl9 hsrc
  have HN := Lib.hid hn
  have HM := Lib.hid hm
  have HSRC := Lib.hid hsrc
  have HELT := Lib.hid helt
  have HBW := Lib.hid hbw
  have HI := Lib.hid hi
  have HRR := Lib.hid hR
  have HUP := Lib.hid hup
  have hm9 : m ≤ 1000000 := by omega
  subst hv hiv
  clear hn k1 k2 hsrc helt hbw hi hR hup hm hRl
  go_enter Try.func34, Try.ntmps34
  go_wp2
  go_loopw [6, 7] (fun out i wr => ∃ k : Nat, k ≤ m ∧ i = .int .i64 (k : Nat) ∧ OwnT w0 wr out (pick_ l (R.take k)) ∧ Below w.heap.size w wr ∧ ∀ g, out.ownBlock = some g → w.heap.size ≤ g) (fun _ i _ => m - (intOf i).toNat)
  case atStart => exact ⟨0, Nat.zero_le _, rfl, OwnT.nil w HBW.out, Below.refl _ _, fun g hg => by simp [Value.ownBlock] at hg⟩
  case round =>
    obtain ⟨k, hk, rfl, hO, hB, hown⟩ := hrel
    have HO := Lib.hid hO
    have HB := Lib.hid hB
    have HOWN := Lib.hid hown
    by_cases hlt : (k : Int) < (m : Int)
    · have hkr : k < R.length := by have := HM.out; omega
      obtain ⟨j, hj⟩ : ∃ j, j = R.getD k 0 := ⟨_, rfl⟩
      have hjm : j ∈ R := by rw [hj, List.getD_eq_getElem?_getD, List.getElem?_eq_getElem hkr]; exact List.getElem_mem hkr
      have hjl := HRR.out j hjm
      have ej : ∀ i, i < R.length → (natI R).getD i 0 = ((R.getD i 0 : Nat) : Int) := fun i hi => by
        unfold natI; rw [List.getD_eq_getElem?_getD, List.getElem?_map, List.getD_eq_getElem?_getD, List.getElem?_eq_getElem hi]; rfl
      obtain ⟨ib, ioff, icap, hiv, i9⟩ := (HI.out.below hB).at2 (k := k) (by unfold natI; rw [List.length_map]; exact hkr)
      injection hiv with e7 e8 e9
      subst e7
      have i0 : wr.cell? ⟨ib, ioff + k, none⟩ = some (.int .i64 (j : Nat)) := by rw [i9, ej k hkr, hj]
      obtain ⟨b, off, hA, hc⟩ := HSRC.out.2 (by have := HN.out; omega)
      subst hA
      have hus : us[j]? = some (us.getD j undef) := by rw [List.getD_eq_getElem?_getD, List.getElem?_eq_getElem (by rw [HELT.out.1]; exact hjl)]; rfl
      have q0 := cellB (hc j _ hus) hB
      have hui := HELT.out.2 j hjl
      obtain ⟨ua, uc, hue, -, -⟩ := hui.form2
      have hnx : pick_ l (R.take (k + 1)) = pick_ l (R.take k) ++ [l.getD j []] := by
        unfold pick_
        rw [take_nextL 0 hkr, List.map_append, ← hj]; rfl
      have HNX := Lib.hid hnx
      rw [hue] at q0
      obtain ⟨cn, hcn⟩ : ∃ cn, cn = (l.getD j []).length := ⟨_, rfl⟩
      rw [← hcn] at q0 hue
      rw [hue] at hui
      have HUI := Lib.hid hui
      have hjn : (j : Int) < (n : Int) := by have := HN.out; omega
      have hj9 : j ≤ 1000000 := by omega
      obtain ⟨out, hout⟩ : ∃ out, out = pick_ l (R.take k) := ⟨_, rfl⟩
      have hol : out.length = k := by rw [hout]; unfold pick_; rw [List.length_map, List.length_take]; omega
      have HO3 := HO.out
      rw [← hout] at HO3
      obtain ⟨na, nc, nus, hne, -, -, -⟩ := HO3.t
      have HO5 := Lib.hid HO3
      rw [hol] at hne
      have HOL := Lib.hid hol
      have HOUT := Lib.hid hout
      have HOW2 := Lib.hid HOWN.out
      subst hne
      have HNX2 : Hid (pick_ l (R.take (k + 1)) = out ++ [l.getD j []]) := Lib.hid (by rw [HNX.out, hout])
      have hpre : k = 0 ∨ ∃ p jp : Nat, p + 1 = k ∧ jp < j ∧ wr.cell? ⟨ib, ioff + p, none⟩ = some (.int .i64 (jp : Nat)) := by
        by_cases h0 : k = 0
        · exact .inl h0
        · refine .inr ⟨k - 1, R.getD (k - 1) 0, by omega, ?_, ?_⟩
          · have := List.pairwise_iff_getElem.1 HUP.out (k - 1) k (by omega) hkr (by omega)
            rw [hj, List.getD_eq_getElem?_getD, List.getElem?_eq_getElem (by omega), List.getD_eq_getElem?_getD, List.getElem?_eq_getElem hkr]
            exact this
          · obtain ⟨ib2, ioff2, icap2, hiv2, i2⟩ := (HI.out.below hB).at2 (k := k - 1) (by unfold natI; rw [List.length_map]; omega)
            injection hiv2 with e7 e8 e9
            injection e7 with e7
            injection e7 with e7 e10
            subst e7 e10
            rw [i2, ej (k - 1) (by omega)]
      clear i9 hO hB hown hus hc hui hue e8 e9 hnx hcn hkr hjm hjl ej hj HO3 hol hout
      have c1 : decide ((j : Int) < 0) = false := decide_eq_false (by omega)
      have c2 : decide ((n : Int) ≤ (j : Int)) = false := decide_eq_false (by omega)
      have c3 : ¬ ((j : Int) < 0) := by omega
      have c4 : ¬ ((n : Int) ≤ (j : Int)) := by omega
      have c5 : decide (n ≤ j) = false := decide_eq_false (by omega)
      rcases hpre with h0 | ⟨p, jp, hp, hjp, i1⟩
      · subst h0
        have i00 : wr.cell? ⟨ib, ioff, none⟩ = some (.int .i64 (j : Nat)) := i0
        go_wp2
        go_quiet (fail)
        rename_i nq
        obtain ⟨w5, hw5⟩ : ∃ w5, w5 = wr.drewN nq := ⟨_, rfl⟩
        have hb5 : Below wr.heap.size wr w5 := by rw [hw5]; exact below_drewN (Below.refl _ wr) nq
        rw [← hw5]
        have q05 := cellB q0 hb5
        have i005 := cellB i00 hb5
        have HO6 := Lib.hid (HO5.out.below hb5 |>.below (below_new1 w5 (.cells #[.slice ua cn uc] 28)))
        have HB6 : Hid (Below w.heap.size w w5) := Lib.hid (HB.out.trans (hb5.mono HB.out.size))
        clear hw5 hb5 q0 i00
        go_wp2_with (at_builtin; obtain ⟨xus, xr, xo, xe, xb⟩ := HO6.out; refine wpList_appS rfl _ _ _ rfl 28 (.slice none 0 0) 1 24 Try.underlying26 infoL rfl (by decide) (.slice na 0 nc) out.length xus rfl xr (some ⟨w5.heap.size, 0, none⟩) 1 1 [.slice ua cn uc] rfl (Src.one (heap_new1 _ _)) (EltT.one HUI.out).cell (by have := HOL.out; unfold maxLen; omega) (by have := HOL.out; omega) ?_; intro v6 w6 h6; have H6 : Hid (OwnT w0 w6 v6 (out ++ [l.getD j []]) ∧ Below w.heap.size w w6 ∧ ∀ g, v6.ownBlock = some g → w.heap.size ≤ g) := Lib.hid ⟨OwnT.app (yss := [l.getD j []]) xr xo xe xb (EltT.one HUI.out) h6, (HB6.out.trans ((below_new1 w5 (.cells #[.slice ua cn uc] 28)).mono HB6.out.size)).trans (h6.2.1.below (by have := HB6.out.size; simp; omega) (fun i hi => HOW2.out i hi)), fun g hg => by rcases h6.2.2 with e | e; (exact HOW2.out g (by rw [← e]; exact hg)); (rw [e] at hg; injection hg with hg; have := HB6.out.size; simp at hg; omega)⟩; clear h6 xr xo xe xb)
        go_roundw
        case rel => exact ⟨0 + 1, by omega, by go_num, by rw [HNX2.out]; exact H6.out.1, H6.out.2⟩
        case measure => simp [intOf]; omega
      · have d1 : IntKind.i64.wrap ((k : Int) - 1) = (p : Int) := by rw [IntWalk.i64_in _ (by omega)]; omega
        have d2 : (p : Int) < (m : Int) := by omega
        have d3 : decide ((0 : Int) < (k : Int)) = true := decide_eq_true (by omega)
        have d4 : decide (0 < k) = true := decide_eq_true (by omega)
        have d5 : decide ((j : Int) ≤ (jp : Int)) = false := decide_eq_false (by omega)
        have d6 : decide (j ≤ jp) = false := decide_eq_false (by omega)
        have d7 : ¬ ((j : Int) ≤ (jp : Int)) := by omega
        have d8 : (0 : Int) < (k : Int) := by omega
        clear hp
        go_wp2
        go_quiet (fail)
        rename_i nq
        obtain ⟨w5, hw5⟩ : ∃ w5, w5 = wr.drewN nq := ⟨_, rfl⟩
        have hb5 : Below wr.heap.size wr w5 := by rw [hw5]; exact below_drewN (Below.refl _ wr) nq
        rw [← hw5]
        have q05 := cellB q0 hb5
        have i05 := cellB i0 hb5
        have HO6 := Lib.hid (HO5.out.below hb5 |>.below (below_new1 w5 (.cells #[.slice ua cn uc] 28)))
        have HB6 : Hid (Below w.heap.size w w5) := Lib.hid (HB.out.trans (hb5.mono HB.out.size))
        clear hw5 hb5 q0 i0 i1
        go_wp2_with (at_builtin; obtain ⟨xus, xr, xo, xe, xb⟩ := HO6.out; refine wpList_appS rfl _ _ _ rfl 28 (.slice none 0 0) 1 24 Try.underlying26 infoL rfl (by decide) (.slice na k nc) out.length xus rfl xr (some ⟨w5.heap.size, 0, none⟩) 1 1 [.slice ua cn uc] rfl (Src.one (heap_new1 _ _)) (EltT.one HUI.out).cell (by have := HOL.out; unfold maxLen; omega) (by have := HOL.out; omega) ?_; intro v6 w6 h6; have H6 : Hid (OwnT w0 w6 v6 (out ++ [l.getD j []]) ∧ Below w.heap.size w w6 ∧ ∀ g, v6.ownBlock = some g → w.heap.size ≤ g) := Lib.hid ⟨OwnT.app (yss := [l.getD j []]) xr xo xe xb (EltT.one HUI.out) h6, (HB6.out.trans ((below_new1 w5 (.cells #[.slice ua cn uc] 28)).mono HB6.out.size)).trans (h6.2.1.below (by have := HB6.out.size; simp; omega) (fun i hi => HOW2.out i hi)), fun g hg => by rcases h6.2.2 with e | e; (exact HOW2.out g (by rw [← e]; exact hg)); (rw [e] at hg; injection hg with hg; have := HB6.out.size; simp at hg; omega)⟩; clear h6 xr xo xe xb)
        go_roundw
        case rel => exact ⟨k + 1, by omega, by go_num, by rw [HNX2.out]; exact H6.out.1, H6.out.2⟩
        case measure => simp [intOf]; omega
    · have HF : Hid (pick_ l (R.take k) = pick_ l R) := Lib.hid (by rw [List.take_of_length_le (by have := HM.out; omega)])
      clear hO hB hown
      go_wp2
      go_ret2
      exact ⟨_, rfl, by rw [← HF.out]; exact HO.out, HB.out⟩
/-! ### Part -/
/-- Steps that are some of a proof's, at rising places. -/
def RiseP (xs ks : List Stp) (ps : List Nat) : Prop := ps.Pairwise (· < ·) ∧ (∀ p ∈ ps, p < xs.length ∧ (xs.getD p (false, [])).1 = false) ∧ ks = ps.map fun p => (false, (xs.getD p (false, [])).2)
theorem riseP_at {xs ks : List Stp} {ps : List Nat} (h : RiseP xs ks ps) {j : Nat} (hj : j < ps.length) : ps.getD j 0 < xs.length ∧ (xs.getD (ps.getD j 0) (false, [])).1 = false ∧ ks.getD j (false, []) = (false, (xs.getD (ps.getD j 0) (false, [])).2) := by
  have e : ps.getD j 0 = ps[j] := by rw [List.getD_eq_getElem?_getD, List.getElem?_eq_getElem hj]; rfl
  obtain ⟨-, h2, rfl⟩ := h
  obtain ⟨a, b⟩ := h2 ps[j] (List.getElem_mem hj)
  refine ⟨by rw [e]; exact a, by rw [e]; exact b, ?_⟩
  rw [List.getD_eq_getElem?_getD, List.getElem?_map, List.getElem?_eq_getElem hj, e]; rfl
theorem riseP_next {xs ks : List Stp} {ps : List Nat} (h : RiseP xs ks ps) {j : Nat} (hj : j + 1 < ps.length) : ps.getD j 0 + 1 ≤ ps.getD (j + 1) 0 := by
  have := List.pairwise_iff_getElem.1 h.1 j (j + 1) (by omega) hj (by omega)
  rw [List.getD_eq_getElem?_getD, List.getElem?_eq_getElem (by omega), List.getD_eq_getElem?_getD, List.getElem?_eq_getElem hj]
  exact this
set_option maxHeartbeats 4000000 in
set_option maxRecDepth 100000 in
theorem r26_Part {w : World} {kv xv : Value} {xs ks : List Stp} {ps : List Nat} (hk : StpS w kv ks) (hx : StpS w xv xs) (hr : RiseP xs ks ps) (hl : xs.length ≤ 1000000) :
    Calls Try.prog 63 #[kv, xv] w fun e w' => e = .returned (.bool true) ∧ Below w.heap.size w w' := by
  have hkl : ks.length = ps.length := by rw [hr.2.2, List.length_map]
  obtain ⟨ka, kc, hke, k1, k2⟩ := hk.form
  obtain ⟨xa, xc, hxe, -, -⟩ := hx.form
  obtain ⟨n, hn⟩ : ∃ n, n = xs.length := ⟨_, rfl⟩
  obtain ⟨m, hm⟩ : ∃ m, m = ps.length := ⟨_, rfl⟩
  rw [hkl, ← hm] at hke
  rw [hkl, ← hm] at k1
  rw [← hn] at hxe hl
  have hm9 : m ≤ 9223372036854775807 := Nat.le_trans k1 k2
  have HK := Lib.hid hk
  have HX := Lib.hid hx
  have HR := Lib.hid hr
  have HN := Lib.hid hn
  have HM := Lib.hid hm
  have HKL := Lib.hid hkl
  subst hke hxe
  clear hk hx hr hn hm hkl k1 k2
  go_enter Try.func63, Try.ntmps63
  go_wp2
  go_loopw [5, 6] (fun kv i wr => ∃ k j : Nat, j ≤ m ∧ k ≤ n ∧ kv = .int .i64 (k : Nat) ∧ i = .int .i64 (j : Nat) ∧ (j < m → k ≤ ps.getD j 0) ∧ Below w.heap.size w wr) (fun _ i _ => m - (intOf i).toNat)
  case atStart => exact ⟨0, 0, Nat.zero_le _, Nat.zero_le _, rfl, rfl, fun _ => Nat.zero_le _, Below.refl _ _⟩
  case round =>
    obtain ⟨k, j, hj, hk, rfl, rfl, hkp, hB⟩ := hrel
    by_cases hlt : (j : Int) < (m : Int)
    · have hjm : j < ps.length := by have := HM.out; omega
      obtain ⟨p1, p2, p3⟩ := riseP_at HR.out hjm
      have hkp0 := hkp (by omega)
      have hnext : j + 1 < m → ps.getD j 0 + 1 ≤ ps.getD (j + 1) 0 := fun h => riseP_next HR.out (by rw [← HM.out]; exact h)
      obtain ⟨p, hp⟩ : ∃ p, p = ps.getD j 0 := ⟨_, rfl⟩
      rw [← hp] at p1 p2 p3 hkp0 hnext
      obtain ⟨b, off, cap2, u, hv2, q0, q1, hu⟩ := HK.out.at_ (j := j) (by rw [HKL.out]; exact hjm)
      injection hv2 with e1 e2 e3
      subst e1
      rw [p3] at q0 hu
      have HQ1 := Lib.hid q1
      have q0 := cellB q0 hB
      obtain ⟨c, hc⟩ : ∃ c, c = (xs.getD p (false, [])).2 := ⟨_, rfl⟩
      have q0 : wr.cell? ⟨b, off + j * 2, none⟩ = some (.bool false) := q0
      have hu : Ints w u c := by rw [hc]; exact hu
      have HU := Lib.hid hu
      have HB := Lib.hid hB
      have HPP := Lib.hid (And.intro p1 p2)
      have HC := Lib.hid hc
      have HNX := Lib.hid hnext
      have HKP := Lib.hid hkp0
      clear hB q1 hu e2 e3 p1 p2 p3 hkp hkp0 hc hnext hp hjm
      go_wp2
      go_loopw [5] (fun kv wx => ∃ k : Nat, k ≤ p ∧ kv = .int .i64 (k : Nat) ∧ Below w.heap.size w wx) (fun kv _ => n - (intOf kv).toNat)
      case atStart => exact ⟨k, HKP.out, rfl, HB.out⟩
      case round =>
        obtain ⟨k, hkp, rfl, hBx⟩ := hrel
        have hkn : k < xs.length := by have := HPP.out.1; omega
        obtain ⟨b2, off2, cap3, u2, hv3, q2, q3, hu2⟩ := HX.out.at_ hkn
        injection hv3 with e1 e2 e3
        subst e1
        have q1x := cellB HQ1.out hBx
        have q2 := cellB q2 hBx
        have q3 := cellB q3 hBx
        obtain ⟨g2, hg2⟩ : ∃ g, g = (xs.getD k (false, [])).1 := ⟨_, rfl⟩
        obtain ⟨c2, hc2⟩ : ∃ g, g = (xs.getD k (false, [])).2 := ⟨_, rfl⟩
        rw [← hg2] at q2
        rw [← hc2] at hu2
        have hS := fun m : Nat => r01_Same (w := wr.drewN m) ((hu2.below hBx).drewN m) ((HU.out.below hBx).drewN m)
        have HS := Lib.hid hS
        have hkg : g2 = true → k ≠ p := fun h e => by
          have := HPP.out.2
          rw [← e, ← hg2, h] at this
          cases this
        have hkc : sameB c2 c = false → k ≠ p := fun h e => by
          rw [hc2, HC.out, e, sameB_self] at h
          cases h
        have hkn1 : (k : Int) < (n : Int) := by have := HN.out; omega
        have HKN := Lib.hid hkn
        have HBX := Lib.hid hBx
        obtain ⟨sb, hsb⟩ : ∃ sb, sb = sameB c2 c := ⟨_, rfl⟩
        rw [← hsb] at hkc
        have HS : Hid (∀ m, Calls Try.prog 36 #[u2, u] (wr.drewN m) fun e w' => e = .returned (.bool sb) ∧ Quiet (wr.drewN m) w') := Lib.hid (by rw [hsb]; exact hS)
        obtain ⟨ua, uc, hue, -, -⟩ := HU.out.form2
        obtain ⟨ua2, uc2, hue2, -, -⟩ := hu2.form2
        generalize c.length = cn at hue
        generalize c2.length = cn2 at hue2
        subst hue hue2
        have HB0 : Hid (∀ m, Below w.heap.size w (wr.drewN m)) := Lib.hid fun m => below_drewN hBx m
        clear hBx e2 e3 hg2 hc2 hsb hS hu2 hkn
        cases g2 with
        | true =>
          have hne := hkg rfl
          have HNE := Lib.hid hne
          clear hkg hkc hne
          go_wp2
          go_quiet (fail)
          go_wp2
          go_roundw
          case rel => exact ⟨k + 1, by have := HNE.out; omega, by go_num, HB0.out _⟩
          case measure => simp [intOf]; omega
        | false =>
          cases sb with
          | false =>
            have hne := hkc rfl
            have HNE := Lib.hid hne
            clear hkg hkc hne
            go_wp2
            go_quiet ((go_at_call 36; exact Calls.quiet_of ((HS.out _).mono fun _ _ h => h)))
            go_wp2
            go_roundw
            case rel => exact ⟨k + 1, by have := HNE.out; omega, by go_num, HB0.out _⟩
            case measure => simp [intOf]; omega
          | true =>
            clear hkg hkc
            go_wp2
            go_quiet ((go_at_call 36; exact Calls.quiet_of ((HS.out _).mono fun _ _ h => h)))
            go_wp2
            go_roundw
            case rel => exact ⟨k + 1, j + 1, by omega, by omega, by go_num, by go_num, fun h => by have := HNX.out h; omega, HB0.out _⟩
            case measure => simp [intOf]; omega
    · clear hkp
      have HB := Lib.hid hB
      clear hB
      go_wp2
      go_ret
      exact ⟨rfl, HB.out⟩
end Go.Proofs.Ytknpfopepedmmaa
