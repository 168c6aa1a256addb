/-
  Package astrariumlaw25's there and only, the document's Find, walked.
-/
import Derived.Test.YtknpfopepedmmaaRvX
namespace Go.Proofs.Ytknpfopepedmmaa
open Go Go.ChangeShapes Go.WideShapes Go.ChangeAt Go.RowKit Go.Maps
set_option linter.unusedVariables false
set_option linter.unusedSimpArgs false
theorem thereL_next (c : List Int) (b : Bool) : ∀ (l : List (List Int)) (gone : List Bool), gone.length = l.length → thereL (l ++ [c]) (gone ++ [b]) = thereL l gone ++ (if b = true then [] else [c])
  | [], [], _ => by cases b <;> rfl
  | d :: l, g :: gs, h => by
    have ih := thereL_next c b l gs (by simpa using h)
    show thereL (d :: (l ++ [c])) (g :: (gs ++ [b])) = _
    unfold thereL
    rw [ih]
    split <;> simp
  | [], g :: gs, h => by simp at h
  | d :: l, [], h => by simp at h
theorem take_nextL {α : Type} {l : List α} {k : Nat} (d : α) (hk : k < l.length) : l.take (k + 1) = l.take k ++ [l.getD k d] := by
  rw [List.take_succ_eq_append_getElem hk, List.getD_eq_getElem?_getD, List.getElem?_eq_getElem hk]; rfl
def seekZ (l : List (List Int)) (gone : List Bool) (c : List Int) : Int := match seekL l gone c with | some k => (k : Int) | none => -1
section
variable {w0 w : World} {v gv u : Value} {l : List (List Int)} {gone : List Bool} {c : List Int}
set_option maxHeartbeats 2000000 in
set_option maxRecDepth 100000 in
theorem r25_Find (hl : IntsS w v l) (hg : Bools w gv gone) (hlen : gone.length = l.length) (hu : Ints w u c) :
    Calls Try.prog 16 #[v, gv, u] w fun e w' => e = .returned (.int .i64 (seekZ l gone c)) ∧ w' = w := by
  obtain ⟨a, cap, hv, k1, k2⟩ := hl.form
  obtain ⟨ga, gc, hgv, -⟩ := id hg
  obtain ⟨n, hn⟩ : ∃ n, n = l.length := ⟨_, rfl⟩
  rw [hlen, ← hn] at hgv
  rw [← hn] at hv k1
  have hn9 : n ≤ 9223372036854775807 := Nat.le_trans k1 k2
  obtain ⟨ua, uc, hue, -, -⟩ := hu.form2
  generalize c.length = cn at hue
  obtain ⟨ans, hans⟩ : ∃ ans, ans = seekZ l gone c := ⟨_, rfl⟩
  rw [← hans]
  have HA := Lib.hid hans
  have HV := Lib.hid hl
  have HG := Lib.hid hg
  have HU := Lib.hid hu
  have HN := Lib.hid hn
  have HLEN := Lib.hid hlen
  subst hv hgv hue
  clear hl hg hlen hu hn hans k1 k2
  go_enter Try.func16, Try.ntmps16
  go_wp2
  go_loopw [7] (fun i wr => ∃ k : Nat, k ≤ n ∧ i = .int .i64 (k : Nat) ∧ (∀ j, j < k → ¬ (gone.getD j true = false ∧ sameS (l.getD j []) c = true)) ∧ wr = w) (fun i _ => n - (intOf i).toNat)
  case atStart => exact ⟨0, Nat.zero_le _, rfl, fun _ h => absurd h (by omega), rfl⟩
  case round =>
    obtain ⟨k, hk, rfl, hrel, rfl⟩ := hrel
    have HR := Lib.hid hrel
    clear hrel
    by_cases hlt : (k : Int) < (n : Int)
    · have hkn : k < l.length := by have := HN.out; omega
      obtain ⟨b, off, cap2, e, hv, q0, he⟩ := HV.out.at_ hkn
      injection hv with e1 e2 e3
      subst e1
      obtain ⟨gb, goff, gcap, hgv, g0⟩ := bools_cell HG.out (j := k) (by rw [HLEN.out]; exact hkn)
      injection hgv with e4 e5 e6
      subst e4
      have hgd : gone.getD k true = gone.getD k false := by rw [List.getD_eq_getElem?_getD, List.getD_eq_getElem?_getD, List.getElem?_eq_getElem (by rw [HLEN.out]; exact hkn)]; rfl
      obtain ⟨gb1, hgb1⟩ : ∃ x, x = gone.getD k false := ⟨_, rfl⟩
      rw [← hgb1] at g0 hgd
      have HGB := Lib.hid hgd
      have HSM := Lib.hid (r17_Same he HU.out)
      obtain ⟨ea, ec, hee, -, -⟩ := he.form2
      generalize (l.getD k []).length = el at hee
      subst hee
      obtain ⟨sb, hsb⟩ : ∃ sb, sb = sameS (l.getD k []) c := ⟨_, rfl⟩
      rw [← hsb] at HSM
      have HSB := Lib.hid hsb
      have HKN := Lib.hid hkn
      clear e2 e3 e5 e6 he hsb hkn hgd hgb1
      cases gb1 with
      | true =>
        have HG2 : Hid (∀ j, j < k + 1 → ¬ (gone.getD j true = false ∧ sameS (l.getD j []) c = true)) := Lib.hid fun j hj => by
          by_cases e : j = k
          · rw [e, HGB.out]; exact fun h => by cases h.1
          · exact HR.out j (by omega)
        go_wp2
        go_roundw
        case rel => exact ⟨k + 1, by omega, by go_num, HG2.out, by first | rfl | trivial⟩
        case measure => simp [intOf]; omega
      | false =>
        cases sb with
        | false =>
          have HG2 : Hid (∀ j, j < k + 1 → ¬ (gone.getD j true = false ∧ sameS (l.getD j []) c = true)) := Lib.hid fun j hj => by
            by_cases e : j = k
            · rw [e, ← HSB.out]; exact fun h => by cases h.2
            · exact HR.out j (by omega)
          go_wp2_with fail
          refine HSM.out.mono ?_
          rintro e w2 ⟨rfl, rfl⟩
          go_wp2
          go_roundw
          case rel => exact ⟨k + 1, by omega, by go_num, HG2.out, by first | rfl | trivial⟩
          case measure => simp [intOf]; omega
        | true =>
          have HF : Hid (ans = (k : Int)) := Lib.hid (by
            rw [HA.out]
            unfold seekZ
            rcases seekL_spec c l gone HLEN.out with ⟨h1, h2⟩ | ⟨t, h1, h2, h3, h4⟩
            · exact absurd ⟨HGB.out, HSB.out.symm⟩ (h2 k HKN.out)
            · rw [h1]
              rcases Nat.lt_trichotomy t k with e | e | e
              · exact absurd h3 (HR.out t e)
              · rw [e]
              · exact absurd ⟨HGB.out, HSB.out.symm⟩ (h4 k e))
          go_wp2_with fail
          refine HSM.out.mono ?_
          rintro e w2 ⟨rfl, rfl⟩
          go_wp2
          go_ret
          exact ⟨by rw [HF.out]; rfl, rfl⟩
    · have HF : Hid (ans = -1) := Lib.hid (by
        rw [HA.out]
        unfold seekZ
        rcases seekL_spec c l gone HLEN.out with ⟨h1, h2⟩ | ⟨t, h1, h2, h3, h4⟩
        · rw [h1]
        · exact absurd h3 (HR.out t (by have := HN.out; omega)))
      go_wp2
      go_ret
      exact ⟨by rw [HF.out]; rfl, rfl⟩
set_option maxHeartbeats 2000000 in
set_option maxRecDepth 100000 in
theorem law_there (hl : IntsT w0 w v l) (hg : Bools w gv gone) (hlen : gone.length = l.length) (hl9 : l.length ≤ 1000000) :
    Calls Try.prog 18 #[v, gv] w fun e w' => ∃ v', e = .returned v' ∧ OwnT w0 w' v' (thereL l gone) ∧ Below w.heap.size w w' := by
  obtain ⟨A, cap, us, hv, k1, k2, hsrc, helt, hbw⟩ := hl
  obtain ⟨ga, gc, hgv, -⟩ := id hg
  obtain ⟨n, hn⟩ : ∃ n, n = l.length := ⟨_, rfl⟩
  rw [hlen, ← hn] at hgv
  rw [← hn] at hv k1 hl9 hsrc
  have HG := Lib.hid hg
  have HN := Lib.hid hn
  have HLEN := Lib.hid hlen
  have HSRC := Lib.hid hsrc
  have HELT := Lib.hid helt
  have HBW := Lib.hid hbw
  subst hv hgv
  clear hg hlen hn k1 k2 hsrc helt hbw
  go_enter Try.func18, Try.ntmps18
  go_wp2
  go_loopw [5, 6] (fun out i wr => ∃ k : Nat, k ≤ n ∧ i = .int .i64 (k : Nat) ∧ OwnT w0 wr out (thereL (l.take k) (gone.take k)) ∧ Below w.heap.size w wr ∧ ∀ g, out.ownBlock = some g → w.heap.size ≤ g) (fun _ i _ => n - (intOf i).toNat)
  case atStart => exact ⟨0, Nat.zero_le _, rfl, OwnT.nil w HBW.out, Below.refl _ _, fun g hg => by simp [Value.ownBlock] at hg⟩
  case round =>
    obtain ⟨k, hk, rfl, hO, hB, hown⟩ := hrel
    have HO := Lib.hid hO
    have HB := Lib.hid hB
    have HOWN := Lib.hid hown
    by_cases hlt : (k : Int) < (n : Int)
    · have hkn : k < l.length := by have := HN.out; omega
      have hkg : k < gone.length := by rw [HLEN.out]; exact hkn
      obtain ⟨b, off, hA, hc⟩ := HSRC.out.2 (by omega)
      subst hA
      have hus : us[k]? = some (us.getD k undef) := by rw [List.getD_eq_getElem?_getD, List.getElem?_eq_getElem (by rw [HELT.out.1]; exact hkn)]; rfl
      have q0 := cellB (hc k _ hus) hB
      have hui := HELT.out.2 k hkn
      obtain ⟨ua, uc, hue, -, -⟩ := hui.form2
      obtain ⟨gb, goff, gcap, hgv, g0⟩ := bools_cell (HG.out.below hB) hkg
      injection hgv with e4 e5 e6
      subst e4
      obtain ⟨gb1, hgb1⟩ : ∃ x, x = gone.getD k false := ⟨_, rfl⟩
      rw [← hgb1] at g0
      have hnx : thereL (l.take (k + 1)) (gone.take (k + 1)) = thereL (l.take k) (gone.take k) ++ (if gb1 = true then [] else [l.getD k []]) := by
        rw [take_nextL [] hkn, take_nextL false hkg, thereL_next _ _ _ _ (by rw [List.length_take, List.length_take]; omega), hgb1]
      have HNX := Lib.hid hnx
      rw [hue] at q0
      obtain ⟨cn, hcn⟩ : ∃ cn, cn = (l.getD k []).length := ⟨_, rfl⟩
      rw [← hcn] at q0 hue
      rw [hue] at hui
      have HUI := Lib.hid hui
      clear hO hB hown hus hc hui hue e5 e6 hgb1 hnx hcn hkn hkg
      cases gb1 with
      | true =>
        have HO2 : Hid (OwnT w0 wr u5 (thereL (l.take (k + 1)) (gone.take (k + 1)))) := Lib.hid (by
          rw [HNX.out, if_pos rfl, List.append_nil]; exact HO.out)
        go_wp2
        go_roundw
        case rel => exact ⟨k + 1, by omega, by go_num, HO2.out, HB.out, HOWN.out⟩
        case measure => simp [intOf]; omega
      | false =>
        obtain ⟨out, hout⟩ : ∃ out, out = thereL (l.take k) (gone.take k) := ⟨_, rfl⟩
        have hol : out.length ≤ 1000000 := by
          rw [hout]
          have : ∀ (a : List (List Int)) (b : List Bool), (thereL a b).length ≤ a.length := by
            intro a
            induction a with
            | nil => intro b; unfold thereL; simp
            | cons d a ih =>
              intro b
              cases b with
              | nil => unfold thereL; simp
              | cons g b =>
                unfold thereL
                have := ih b
                split <;> simp <;> omega
          have h1 := this (l.take k) (gone.take k)
          rw [List.length_take] at h1
          have := HN.out
          omega
        have HO3 := HO.out
        rw [← hout] at HO3
        obtain ⟨na, nc, nus, hne, -, -, -⟩ := HO3.t
        have HO4 := Lib.hid (HO3.below (below_new1 wr (.cells #[.slice ua cn uc] 28)))
        have HOL := Lib.hid hol
        obtain ⟨ol, holn⟩ : ∃ ol, ol = out.length := ⟨_, rfl⟩
        have HOLN := Lib.hid holn
        rw [← holn] at hne
        have HOUT := Lib.hid hout
        have HOW2 := Lib.hid HOWN.out
        subst hne
        have HNX2 : Hid (thereL (l.take (k + 1)) (gone.take (k + 1)) = out ++ [l.getD k []]) := Lib.hid (by rw [HNX.out, if_neg (by decide), hout])
        clear HO3 hol hout holn
        obtain ⟨wq, hwq⟩ : ∃ wq, wq = wr := ⟨_, rfl⟩
        go_wp2_with (at_builtin; obtain ⟨xus, xr, xo, xe, xb⟩ := HO4.out; refine wpList_appS rfl _ _ _ rfl 28 (.slice none 0 0) 1 24 Try.underlying26 infoL rfl (by decide) (.slice na ol nc) out.length xus rfl xr (some ⟨wr.heap.size, 0, none⟩) 1 1 [.slice ua cn uc] rfl (Src.one (heap_new1 _ _)) (EltT.one HUI.out).cell (by have := HOL.out; unfold maxLen; omega) (by have := HOL.out; omega) ?_; intro v5 w5 h5; have H5 : Hid (OwnT w0 w5 v5 (out ++ [l.getD k []]) ∧ Below w.heap.size w w5 ∧ ∀ g, v5.ownBlock = some g → w.heap.size ≤ g) := Lib.hid ⟨OwnT.app (yss := [l.getD k []]) xr xo xe xb (EltT.one HUI.out) h5, (HB.out.trans ((below_new1 wr (.cells #[.slice ua cn uc] 28)).mono HB.out.size)).trans (h5.2.1.below (by have := HB.out.size; simp; omega) (fun i hi => HOW2.out i hi)), fun g hg => by rcases h5.2.2 with e | e; (exact HOW2.out g (by rw [← e]; exact hg)); (rw [e] at hg; injection hg with hg; have := HB.out.size; simp at hg; omega)⟩; clear h5 xr xo xe xb)
        go_roundw
        case rel => exact ⟨k + 1, by omega, by go_num, by rw [HNX2.out]; exact H5.out.1, H5.out.2⟩
        case measure => simp [intOf]; omega
    · have HF : Hid (thereL (l.take k) (gone.take k) = thereL l gone) := Lib.hid (by
        rw [List.take_of_length_le (by have := HN.out; omega), List.take_of_length_le (by have := HN.out; have := HLEN.out; omega)])
      clear hO hB hown
      go_wp2
      go_ret
      exact ⟨_, rfl, by rw [← HF.out]; exact HO.out, HB.out⟩
/-- The clauses of numbers. -/
def pick_ (l : List (List Int)) (R : List Nat) : List (List Int) := R.map fun j => l.getD j []
set_option maxHeartbeats 4000000 in
set_option maxRecDepth 100000 in
theorem law_only {iv_ : Value} {R : List Nat} (hl : IntsT w0 w v l) (hg : Bools w gv gone) (hlen : gone.length = l.length) (hl9 : l.length ≤ 1000000) (hi : Ints w iv_ (R.map fun j : Nat => (j : Int))) (hR : ∀ j ∈ R, j < l.length ∧ gone.getD j true = false) (hup : R.Pairwise (· < ·)) :
    Calls Try.prog 20 #[v, gv, iv_] w fun e w' => ∃ v', e = .returned (.tuple #[v', .bool true]) ∧ OwnT w0 w' v' (pick_ l R) ∧ Below w.heap.size w w' := by
  have hRl : R.length ≤ l.length := by
    have nd : R.Nodup := hup.imp fun h => by omega
    have := nd.length_le_of_subset (l₂ := List.range l.length) (fun j hj => List.mem_range.2 (hR j hj).1)
    simpa using this
  obtain ⟨A, cap, us, hv, k1, k2, hsrc, helt, hbw⟩ := hl
  obtain ⟨ga, gc, hgv, -⟩ := id hg
  obtain ⟨ia, ic, hiv, -, -⟩ := hi.form2
  obtain ⟨n, hn⟩ : ∃ n, n = l.length := ⟨_, rfl⟩
  obtain ⟨m, hm⟩ : ∃ m, m = R.length := ⟨_, rfl⟩
  rw [hlen, ← hn] at hgv
  rw [List.length_map, ← hm] at hiv
  rw [← hn] at hv k1 hl9 hsrc
  have HG := Lib.hid hg
  have HN := Lib.hid hn
  have HM := Lib.hid hm
  have HLEN := Lib.hid hlen
  have HSRC := Lib.hid hsrc
  have HELT := Lib.hid helt
  have HBW := Lib.hid hbw
  have HI := Lib.hid hi
  have HRR := Lib.hid hR
  have HUP := Lib.hid hup
  have hm9 : m ≤ 1000000 := by omega
  subst hv hgv hiv
  clear hg hlen hn k1 k2 hsrc helt hbw hi hR hup hm hRl
  go_enter Try.func20, Try.ntmps20
  go_wp2
  go_loopw [8, 9] (fun out i wr => ∃ k : Nat, k ≤ m ∧ i = .int .i64 (k : Nat) ∧ OwnT w0 wr out (pick_ l (R.take k)) ∧ Below w.heap.size w wr ∧ ∀ g, out.ownBlock = some g → w.heap.size ≤ g) (fun _ i _ => m - (intOf i).toNat)
  case atStart => exact ⟨0, Nat.zero_le _, rfl, OwnT.nil w HBW.out, Below.refl _ _, fun g hg => by simp [Value.ownBlock] at hg⟩
  case round =>
    obtain ⟨k, hk, rfl, hO, hB, hown⟩ := hrel
    have HO := Lib.hid hO
    have HB := Lib.hid hB
    have HOWN := Lib.hid hown
    by_cases hlt : (k : Int) < (m : Int)
    · have hkr : k < R.length := by have := HM.out; omega
      obtain ⟨j, hj⟩ : ∃ j, j = R.getD k 0 := ⟨_, rfl⟩
      have hjm : j ∈ R := by rw [hj, List.getD_eq_getElem?_getD, List.getElem?_eq_getElem hkr]; exact List.getElem_mem hkr
      obtain ⟨hjl, hjg⟩ := HRR.out j hjm
      have ej : ∀ i, i < R.length → (R.map fun j : Nat => (j : Int)).getD i 0 = ((R.getD i 0 : Nat) : Int) := fun i hi => by
        rw [List.getD_eq_getElem?_getD, List.getElem?_map, List.getD_eq_getElem?_getD, List.getElem?_eq_getElem hi]; rfl
      obtain ⟨ib, ioff, icap, hiv, i9⟩ := (HI.out.below hB).at2 (k := k) (by rw [List.length_map]; exact hkr)
      injection hiv with e7 e8 e9
      subst e7
      have i0 : wr.cell? ⟨ib, ioff + k, none⟩ = some (.int .i64 (j : Nat)) := by rw [i9, ej k hkr, hj]
      obtain ⟨b, off, hA, hc⟩ := HSRC.out.2 (by have := HN.out; omega)
      subst hA
      have hus : us[j]? = some (us.getD j undef) := by rw [List.getD_eq_getElem?_getD, List.getElem?_eq_getElem (by rw [HELT.out.1]; exact hjl)]; rfl
      have q0 := cellB (hc j _ hus) hB
      have hui := HELT.out.2 j hjl
      obtain ⟨ua, uc, hue, -, -⟩ := hui.form2
      obtain ⟨gb, goff, gcap, hgv, g0⟩ := bools_cell (HG.out.below hB) (j := j) (by rw [HLEN.out]; exact hjl)
      injection hgv with e4 e5 e6
      subst e4
      have hgf : gone.getD j false = false := by
        rw [List.getD_eq_getElem?_getD, List.getElem?_eq_getElem (by rw [HLEN.out]; exact hjl)] at hjg ⊢
        exact hjg
      rw [hgf] at g0
      have hnx : pick_ l (R.take (k + 1)) = pick_ l (R.take k) ++ [l.getD j []] := by
        unfold pick_
        rw [take_nextL 0 hkr, List.map_append, ← hj]; rfl
      have HNX := Lib.hid hnx
      rw [hue] at q0
      obtain ⟨cn, hcn⟩ : ∃ cn, cn = (l.getD j []).length := ⟨_, rfl⟩
      rw [← hcn] at q0 hue
      rw [hue] at hui
      have HUI := Lib.hid hui
      have hjn : (j : Int) < (n : Int) := by have := HN.out; omega
      have hj9 : j ≤ 1000000 := by omega
      obtain ⟨out, hout⟩ : ∃ out, out = pick_ l (R.take k) := ⟨_, rfl⟩
      have hol : out.length = k := by rw [hout]; unfold pick_; rw [List.length_map, List.length_take]; omega
      have HO3 := HO.out
      rw [← hout] at HO3
      obtain ⟨na, nc, nus, hne, -, -, -⟩ := HO3.t
      have HO5 := Lib.hid HO3
      rw [hol] at hne
      have HOL := Lib.hid hol
      have HOUT := Lib.hid hout
      have HOW2 := Lib.hid HOWN.out
      subst hne
      have HNX2 : Hid (pick_ l (R.take (k + 1)) = out ++ [l.getD j []]) := Lib.hid (by rw [HNX.out, hout])
      have hpre : k = 0 ∨ ∃ p jp : Nat, p + 1 = k ∧ jp < j ∧ wr.cell? ⟨ib, ioff + p, none⟩ = some (.int .i64 (jp : Nat)) := by
        by_cases h0 : k = 0
        · exact .inl h0
        · refine .inr ⟨k - 1, R.getD (k - 1) 0, by omega, ?_, ?_⟩
          · have := List.pairwise_iff_getElem.1 HUP.out (k - 1) k (by omega) hkr (by omega)
            rw [hj, List.getD_eq_getElem?_getD, List.getElem?_eq_getElem (by omega), List.getD_eq_getElem?_getD, List.getElem?_eq_getElem hkr]
            exact this
          · obtain ⟨ib2, ioff2, icap2, hiv2, i2⟩ := (HI.out.below hB).at2 (k := k - 1) (by rw [List.length_map]; omega)
            injection hiv2 with e7 e8 e9
            injection e7 with e7
            injection e7 with e7 e10
            subst e7 e10
            rw [i2, ej (k - 1) (by omega)]
      clear i9 hO hB hown hus hc hui hue e5 e6 e8 e9 hnx hcn hkr hjm hjl hjg ej hgf hj HO3 hol hout
      have c1 : decide ((j : Int) < 0) = false := decide_eq_false (by omega)
      have c2 : decide ((n : Int) ≤ (j : Int)) = false := decide_eq_false (by omega)
      have c3 : ¬ ((j : Int) < 0) := by omega
      have c4 : ¬ ((n : Int) ≤ (j : Int)) := by omega
      have c5 : decide (n ≤ j) = false := decide_eq_false (by omega)
      rcases hpre with h0 | ⟨p, jp, hp, hjp, i1⟩
      · subst h0
        have i00 : wr.cell? ⟨ib, ioff, none⟩ = some (.int .i64 (j : Nat)) := i0
        go_wp2
        go_quiet (fail)
        rename_i nq
        obtain ⟨w5, hw5⟩ : ∃ w5, w5 = wr.drewN nq := ⟨_, rfl⟩
        have hb5 : Below wr.heap.size wr w5 := by rw [hw5]; exact below_drewN (Below.refl _ wr) nq
        rw [← hw5]
        have q05 := cellB q0 hb5
        have i005 := cellB i00 hb5
        have HO6 := Lib.hid (HO5.out.below hb5 |>.below (below_new1 w5 (.cells #[.slice ua cn uc] 28)))
        have HB6 : Hid (Below w.heap.size w w5) := Lib.hid (HB.out.trans (hb5.mono HB.out.size))
        clear hw5 hb5 q0 i00 g0
        go_wp2_with (at_builtin; obtain ⟨xus, xr, xo, xe, xb⟩ := HO6.out; refine wpList_appS rfl _ _ _ rfl 28 (.slice none 0 0) 1 24 Try.underlying26 infoL rfl (by decide) (.slice na 0 nc) out.length xus rfl xr (some ⟨w5.heap.size, 0, none⟩) 1 1 [.slice ua cn uc] rfl (Src.one (heap_new1 _ _)) (EltT.one HUI.out).cell (by have := HOL.out; unfold maxLen; omega) (by have := HOL.out; omega) ?_; intro v6 w6 h6; have H6 : Hid (OwnT w0 w6 v6 (out ++ [l.getD j []]) ∧ Below w.heap.size w w6 ∧ ∀ g, v6.ownBlock = some g → w.heap.size ≤ g) := Lib.hid ⟨OwnT.app (yss := [l.getD j []]) xr xo xe xb (EltT.one HUI.out) h6, (HB6.out.trans ((below_new1 w5 (.cells #[.slice ua cn uc] 28)).mono HB6.out.size)).trans (h6.2.1.below (by have := HB6.out.size; simp; omega) (fun i hi => HOW2.out i hi)), fun g hg => by rcases h6.2.2 with e | e; (exact HOW2.out g (by rw [← e]; exact hg)); (rw [e] at hg; injection hg with hg; have := HB6.out.size; simp at hg; omega)⟩; clear h6 xr xo xe xb)
        go_roundw
        case rel => exact ⟨0 + 1, by omega, by go_num, by rw [HNX2.out]; exact H6.out.1, H6.out.2⟩
        case measure => simp [intOf]; omega
      · have d1 : IntKind.i64.wrap ((k : Int) - 1) = (p : Int) := by rw [IntWalk.i64_in _ (by omega)]; omega
        have d2 : (p : Int) < (m : Int) := by omega
        have d3 : decide ((0 : Int) < (k : Int)) = true := decide_eq_true (by omega)
        have d4 : decide (0 < k) = true := decide_eq_true (by omega)
        have d5 : decide ((j : Int) ≤ (jp : Int)) = false := decide_eq_false (by omega)
        have d6 : decide (j ≤ jp) = false := decide_eq_false (by omega)
        have d7 : ¬ ((j : Int) ≤ (jp : Int)) := by omega
        have d8 : (0 : Int) < (k : Int) := by omega
        clear hp
        go_wp2
        go_quiet (fail)
        rename_i nq
        obtain ⟨w5, hw5⟩ : ∃ w5, w5 = wr.drewN nq := ⟨_, rfl⟩
        have hb5 : Below wr.heap.size wr w5 := by rw [hw5]; exact below_drewN (Below.refl _ wr) nq
        rw [← hw5]
        have q05 := cellB q0 hb5
        have i05 := cellB i0 hb5
        have HO6 := Lib.hid (HO5.out.below hb5 |>.below (below_new1 w5 (.cells #[.slice ua cn uc] 28)))
        have HB6 : Hid (Below w.heap.size w w5) := Lib.hid (HB.out.trans (hb5.mono HB.out.size))
        clear hw5 hb5 q0 i0 g0 i1
        go_wp2_with (at_builtin; obtain ⟨xus, xr, xo, xe, xb⟩ := HO6.out; refine wpList_appS rfl _ _ _ rfl 28 (.slice none 0 0) 1 24 Try.underlying26 infoL rfl (by decide) (.slice na k nc) out.length xus rfl xr (some ⟨w5.heap.size, 0, none⟩) 1 1 [.slice ua cn uc] rfl (Src.one (heap_new1 _ _)) (EltT.one HUI.out).cell (by have := HOL.out; unfold maxLen; omega) (by have := HOL.out; omega) ?_; intro v6 w6 h6; have H6 : Hid (OwnT w0 w6 v6 (out ++ [l.getD j []]) ∧ Below w.heap.size w w6 ∧ ∀ g, v6.ownBlock = some g → w.heap.size ≤ g) := Lib.hid ⟨OwnT.app (yss := [l.getD j []]) xr xo xe xb (EltT.one HUI.out) h6, (HB6.out.trans ((below_new1 w5 (.cells #[.slice ua cn uc] 28)).mono HB6.out.size)).trans (h6.2.1.below (by have := HB6.out.size; simp; omega) (fun i hi => HOW2.out i hi)), fun g hg => by rcases h6.2.2 with e | e; (exact HOW2.out g (by rw [← e]; exact hg)); (rw [e] at hg; injection hg with hg; have := HB6.out.size; simp at hg; omega)⟩; clear h6 xr xo xe xb)
        go_roundw
        case rel => exact ⟨k + 1, by omega, by go_num, by rw [HNX2.out]; exact H6.out.1, H6.out.2⟩
        case measure => simp [intOf]; omega
    · have HF : Hid (pick_ l (R.take k) = pick_ l R) := Lib.hid (by rw [List.take_of_length_le (by have := HM.out; omega)])
      clear hO hB hown
      go_wp2
      go_ret2
      exact ⟨_, rfl, by rw [← HF.out]; exact HO.out, HB.out⟩
end
end Go.Proofs.Ytknpfopepedmmaa
