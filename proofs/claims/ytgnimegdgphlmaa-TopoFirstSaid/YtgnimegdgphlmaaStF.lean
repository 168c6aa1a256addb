/-
  slices' stable sort over nodes: symMerge, two blocks.
-/
import Derived.Test.YtgnimegdgphlmaaStA
namespace Go.Proofs.Ytgnimegdgphlmaa
open Go.ChangeShapes Go.WideShapes Go.ChangeAt Go.RowKit
set_option linter.unusedVariables false
set_option linter.unusedSimpArgs false
section
variable {fp : Addr} {key : NodeD → Int} {g n : Nat} {S : List NodeD → World → Prop}
/-- Merging works on blocks of so many elements. -/
def SymC (fp : Addr) (key : NodeD → Int) (g n : Nat) (S : List NodeD → World → Prop) (cap N : Nat) : Prop :=
  ∀ (W : World) (P U V R : List NodeD) (A M B : Int), U.length + V.length ≤ N → S (P ++ U ++ V ++ R) W → A = P.length → M = A + U.length → B = M + V.length → 0 < U.length → 0 < V.length → Srt key U → Srt key V →
    Calls Try.prog 52 #[.slice (some ⟨g, 0, none⟩) n cap, .int .i64 A, .int .i64 M, .int .i64 B, .func (.func 29) #[] #[.pointer (some fp)]] W (SymQ key S P U V R)
/-- Where two blocks part. -/
def MidS (key : NodeD → Int) (S : List NodeD → World → Prop) (U V L : List NodeD) (md s t : Nat) (wr : World) : Prop :=
  md - V.length ≤ s ∧ s ≤ t ∧ t ≤ U.length ∧ t ≤ md ∧ (s = md - V.length ∨ ¬ key (V.getD (md - s) node0) < key (U.getD (s - 1) node0)) ∧ ((t = U.length ∨ t = md) ∨ key (V.getD (md - 1 - t) node0) < key (U.getD t node0)) ∧ S L wr
theorem MidS.done {U V L : List NodeD} {md s : Nat} {wr : World} (h : MidS key S U V L md s s wr) (hu : Srt key U) (hv : Srt key V) :
    (∀ x ∈ U.drop s, ∀ y ∈ V.take (md - s), key y < key x) ∧ ∀ x ∈ U.take s, ∀ y ∈ V.drop (md - s), key x ≤ key y := by
  obtain ⟨h1, -, h3, h4, h5, h6, -⟩ := h
  refine sym_ok node0 hu hv s (md - s) h3 (by omega) ?_ ?_
  · rcases h5 with h5 | h5
    · omega
    · by_cases hs : s = 0
      · exact .inl hs
      · right; right; omega
  · rcases h6 with (h6 | h6) | h6
    · exact .inl h6
    · right; left; omega
    · right; right; rw [show md - s - 1 = md - 1 - s by omega]; exact h6
/-- The left halves merged, or one of them empty. -/
def Half (key : NodeD → Int) (U V M : List NodeD) : Prop := M.length = U.length + V.length ∧ Mrg key U V M
theorem Half.none {U V : List NodeD} (hu : Srt key U) (hv : Srt key V) (h : U.length = 0 ∨ V.length = 0) : Half key U V (U ++ V) := by
  rcases h with h | h
  · obtain rfl := List.eq_nil_of_length_eq_zero h
    exact ⟨by simp, by simpa using Mrg.nil_left hv⟩
  · obtain rfl := List.eq_nil_of_length_eq_zero h
    exact ⟨by simp, by simpa using Mrg.nil_right hu⟩
set_option maxHeartbeats 16000000 in
set_option maxRecDepth 100000 in
theorem symM_ (E : SEnv fp key g n S) (cap N : Nat) (ih : SymC fp key g n S cap N) {W : World} {P U V R : List NodeD} (h : S (P ++ U ++ V ++ R) W) {A M B : Int} (hA : A = P.length) (hM : M = A + U.length) (hB : B = M + V.length) (hU : 1 < U.length) (hV : 1 < V.length) (hN : U.length + V.length ≤ N + 1) (hsu : Srt key U) (hsv : Srt key V) :
    Calls Try.prog 52 #[.slice (some ⟨g, 0, none⟩) n cap, .int .i64 A, .int .i64 M, .int .i64 B, .func (.func 29) #[] #[.pointer (some fp)]] W (SymQ key S P U V R) := by
  have hn := E.small
  have hlen := E.len h
  simp only [List.length_append] at hlen
  obtain ⟨L, hL⟩ : ∃ L, L = P ++ U ++ V ++ R := ⟨_, rfl⟩
  have hA0 : 0 ≤ A := by omega
  obtain ⟨md, hmd⟩ : ∃ md, md = (U.length + V.length) / 2 := ⟨_, rfl⟩
  have hst : ∀ s t, s = md - V.length → ((U.length ≤ md ∧ t = U.length) ∨ (md < U.length ∧ t = md)) → MidS key S U V L md s t W := fun s t hs ht => ⟨by omega, by omega, by omega, by omega, .inl hs, .inl (by omega), hL ▸ h⟩
  have gu : ∀ i, i < U.length → L.getD (P.length + i) node0 = U.getD i node0 := fun i hi => by
    rw [hL]
    simp only [List.getD]
    rw [List.append_assoc, List.getElem?_append_left (by simp only [List.length_append]; omega), List.getElem?_append_right (by simp)]
    congr 2
    simp
  have gv : ∀ i, i < V.length → L.getD (P.length + U.length + i) node0 = V.getD i node0 := fun i hi => by
    rw [hL]
    simp only [List.getD]
    rw [List.getElem?_append_left (by simp only [List.length_append]; omega), List.getElem?_append_right (by simp)]
    congr 2
    simp
  obtain ⟨u, hu⟩ : ∃ u, u = U.length := ⟨_, rfl⟩
  obtain ⟨v, hv⟩ : ∃ v, v = V.length := ⟨_, rfl⟩
  obtain ⟨p, hp⟩ : ∃ p, p = P.length := ⟨_, rfl⟩
  rw [← hu] at hst gu gv hM hU hN hmd
  rw [← hv] at hst gv hB hV hN hmd
  rw [← hp] at gu gv hA
  have HE := Lib.hid E
  have HST := Lib.hid hst
  have HA := Lib.hid hA
  have HM := Lib.hid hM
  have HB := Lib.hid hB
  have HL := Lib.hid hL
  have HU := Lib.hid hu
  have HV := Lib.hid hv
  have HP := Lib.hid hp
  have GV := Lib.hid gv
  have GU := Lib.hid gu
  have HIH := Lib.hid ih
  have HMD := Lib.hid hmd
  have e1 : ((M - A) == 1) = false := by rw [beq_eq_false_iff_ne]; omega
  have e2 : ((B - M) == 1) = false := by rw [beq_eq_false_iff_ne]; omega
  have hM1 : M ≤ A + u := by omega
  have hM2 : A + u ≤ M := by omega
  have hB1 : B ≤ M + v := by omega
  have hB2 : M + v ≤ B := by omega
  have hA1 : A ≤ (p : Int) := by omega
  have hA2 : (p : Int) ≤ A := by omega
  have hlenn : p + u + v ≤ n := by omega
  have hd1 : 2 * md ≤ u + v := by omega
  have hd2 : u + v ≤ 2 * md + 1 := by omega
  have hw1 : IntKind.u64.wrap (A + B) = A + B := u64_in _ (by omega) (by omega)
  have hw2 : (A + B) / 2 = A + (md : Int) := by omega
  clear h E hlen hst hu hv hp hL gv gu hM hB hA ih hmd
  by_cases hum : A + (md : Int) < M
  all_goals
    go_enter Try.func52, Try.ntmps52
    go_wp2
    clear e1 e2 hw1 hw2
    go_loopw [20, 21, 23] (fun i j _ wr => ∃ s t : Nat, i = .int .i64 (A + (s : Int)) ∧ j = .int .i64 (A + (t : Int)) ∧ MidS key S U V L md s t wr) (fun i j _ _ => (intOf j).toNat - (intOf i).toNat)
    case atStart =>
      first
        | exact ⟨md - v, md, by go_num, rfl, HST.out _ _ rfl (.inr ⟨by omega, rfl⟩)⟩
        | exact ⟨md - v, u, by go_num, by go_num, HST.out _ _ rfl (.inl ⟨by omega, rfl⟩)⟩
    case round =>
      obtain ⟨s, t, rfl, rfl, hr⟩ := hrel
      have hr0 := hr.1
      have hr1 := hr.2.1
      have hr2 := hr.2.2.1
      have hr3 := hr.2.2.2.1
      clear HST
      rw [← HU.out] at hr2
      rw [← HV.out] at hr0
      by_cases hab : A + (s : Int) < A + (t : Int)
      · obtain ⟨c, hc⟩ : ∃ c : Nat, c = (s + t) / 2 := ⟨_, rfl⟩
        have hc1 : s ≤ c := by omega
        have hc2 : c < t := by omega
        have hw1 : IntKind.u64.wrap (A + (s : Int) + (A + (t : Int))) = A + (s : Int) + (A + (t : Int)) := u64_in _ (by omega) (by omega)
        have hw2 : (A + (s : Int) + (A + (t : Int))) / 2 = A + (c : Int) := by omega
        obtain ⟨x, hx⟩ : ∃ x, x = U.getD c node0 := ⟨_, rfl⟩
        obtain ⟨y, hy⟩ : ∃ y, y = V.getD (md - 1 - c) node0 := ⟨_, rfl⟩
        obtain ⟨k2, hk2⟩ : ∃ k2, k2 = p + u + (md - 1 - c) := ⟨_, rfl⟩
        obtain ⟨I2, hI2⟩ : ∃ I2, I2 = A + (md : Int) + M - 1 - (A + (c : Int)) := ⟨_, rfl⟩
        have hw3 : IntKind.i64.wrap (A + (md : Int) + M - 1 - (A + (c : Int))) = I2 := by rw [← hI2]; simp (disch := omega) only [IntWalk.i64_in]
        have hw4 : IntKind.i64.wrap I2 = I2 := by simp (disch := omega) only [IntWalk.i64_in]
        have ec : (A + (c : Int)).toNat = p + c := by omega
        have ek : I2.toNat = k2 := by omega
        have hi1 : 0 ≤ I2 := by omega
        have hi2 : I2 < n := by omega
        have gc : L.getD (p + c) node0 = x := by rw [GU.out c (by omega), hx]
        have gk : L.getD k2 node0 = y := by rw [hk2, GV.out (md - 1 - c) (by omega), hy]
        have hs0 := hr.2.2.2.2.2.2
        have hcmp := HE.out.cmp (HE.out.drew hs0 1) k2 (p + c) (by omega) (by omega)
        have hcell := fun w' (hs' : S L w') => (⟨HE.out.c0 hs' k2 (by omega), HE.out.c1 hs' k2 (by omega), HE.out.c2 hs' k2 (by omega), HE.out.c0 hs' (p + c) (by omega), HE.out.c1 hs' (p + c) (by omega), HE.out.c2 hs' (p + c) (by omega)⟩ : w'.cell? ⟨g, k2 * 3, none⟩ = _ ∧ w'.cell? ⟨g, k2 * 3 + 1, none⟩ = _ ∧ w'.cell? ⟨g, k2 * 3 + 2, none⟩ = _ ∧ w'.cell? ⟨g, (p + c) * 3, none⟩ = _ ∧ w'.cell? ⟨g, (p + c) * 3 + 1, none⟩ = _ ∧ w'.cell? ⟨g, (p + c) * 3 + 2, none⟩ = _)
        rw [gc, gk] at hcmp hcell
        have hnext : ∀ w', S L w' → (¬ key y < key x → MidS key S U V L md (c + 1) t w') ∧ (key y < key x → MidS key S U V L md s c w') := fun w' hw' => ⟨fun hk => ⟨by have := HV.out; omega, by omega, hr.2.2.1, by omega, .inr (by rw [show md - (c + 1) = md - 1 - c by omega, Nat.add_sub_cancel, ← hx, ← hy]; exact hk), hr.2.2.2.2.2.1, hw'⟩, fun hk => ⟨hr.1, hc1, by have := HU.out; omega, by omega, hr.2.2.2.2.1, .inr (by rw [← hx, ← hy]; exact hk), hw'⟩⟩
        obtain ⟨c0, c1, c2, x0, x1, x2⟩ := hcell wr hs0
        unfold ndV at hcmp
        have HCELL := Lib.hid hcell
        have HC := Lib.hid hcmp
        have HN := Lib.hid hnext
        have hcn : A + (c : Int) < n := by omega
        have hc0 : 0 ≤ A + (c : Int) := by omega
        have EC := Lib.hid hc
        have EK := Lib.hid hk2
        have EI := Lib.hid hI2
        clear hr hcmp hcell hnext hs0 hx hy gc gk hc hk2 hI2
        go_wp2
        go_region_held3 (fun w' => w'.cell? ⟨g, k2 * 3, none⟩ = some (.bool y.read) ∧ w'.cell? ⟨g, k2 * 3 + 1, none⟩ = some (.int .i64 y.mem) ∧ w'.cell? ⟨g, k2 * 3 + 2, none⟩ = some (.int .i64 y.pos) ∧ w'.cell? ⟨g, (p + c) * 3, none⟩ = some (.bool x.read) ∧ w'.cell? ⟨g, (p + c) * 3 + 1, none⟩ = some (.int .i64 x.mem) ∧ w'.cell? ⟨g, (p + c) * 3 + 2, none⟩ = some (.int .i64 x.pos)) (go_keep) (first
              | (go_at_call 29; refine HC.out.mono ?_; rintro e w5 ⟨kk, rfl, hk, hs5⟩; have HK := Lib.hid hk; have HS5 := Lib.hid hs5; obtain ⟨p0, p1, p2, p3, p4, p5⟩ := HCELL.out w5 hs5; clear hk hs5))
        clear p0 p1 p2 p3 p4 p5 hw3 hw4
        have HFa : Hid (¬ kk < 0 → MidS key S U V L md (c + 1) t w5) := Lib.hid (fun hkk => (HN.out w5 HS5.out).1 (by have := HK.out; omega))
        have HFb : Hid (kk < 0 → MidS key S U V L md s c w5) := Lib.hid (fun hkk => (HN.out w5 HS5.out).2 (HK.out.1 hkk))
        go_wp2
        · have hq : (!decide (kk < 0)) = true := by assumption
          have HF := Lib.hid (HFa.out (by simpa using hq))
          go_roundw
          case rel => exact ⟨c + 1, t, by go_num, rfl, HF.out⟩
          case measure => simp [intOf]; omega
        · have hq : (!decide (kk < 0)) = false := by assumption
          have HF := Lib.hid (HFb.out (by simpa using hq))
          go_roundw
          case rel => exact ⟨s, c, rfl, rfl, HF.out⟩
          case measure => simp [intOf]; omega
      · obtain rfl : t = s := by omega
        obtain ⟨h1, h2⟩ := hr.done hsu hsv
        have hs0 := hr.2.2.2.2.2.2
        have hUl := HU.out
        have hVl := HV.out
        obtain ⟨U1, hU1⟩ : ∃ X, X = U.take t := ⟨_, rfl⟩
        obtain ⟨U2, hU2⟩ : ∃ X, X = U.drop t := ⟨_, rfl⟩
        obtain ⟨V1, hV1⟩ : ∃ X, X = V.take (md - t) := ⟨_, rfl⟩
        obtain ⟨V2, hV2⟩ : ∃ X, X = V.drop (md - t) := ⟨_, rfl⟩
        have lU1 : U1.length = t := by rw [hU1, List.length_take]; omega
        have lU2 : U2.length = u - t := by rw [hU2, List.length_drop]; omega
        have lV1 : V1.length = md - t := by rw [hV1, List.length_take]; omega
        have lV2 : V2.length = v - (md - t) := by rw [hV2, List.length_drop]; omega
        have hUe : U = U1 ++ U2 := by rw [hU1, hU2, List.take_append_drop]
        have hVe : V = V1 ++ V2 := by rw [hV1, hV2, List.take_append_drop]
        rw [← hU1, ← hV2] at h2
        rw [← hU2, ← hV1] at h1
        have HSU : Hid (Srt key (U1 ++ U2)) := Lib.hid (hUe ▸ hsu)
        have HSV : Hid (Srt key (V1 ++ V2)) := Lib.hid (hVe ▸ hsv)
        have HCOMB : Hid (∀ m1 m2 w', Half key U1 V1 m1 → Half key U2 V2 m2 → S (P ++ m1 ++ m2 ++ R) w' → SymQ key S P U V R (.returned (.tuple #[])) w') := Lib.hid fun m1 m2 w' g1 g2 hw => ⟨rfl, m1 ++ m2, by rw [List.length_append, g1.1, g2.1, hUe, hVe, List.length_append, List.length_append]; omega, by simpa using hw, by
          rw [hUe, hVe]
          exact Mrg.sym HSU.out HSV.out h1 h2 g1.2 g2.2⟩
        rw [HL.out, hUe, hVe] at hs0
        obtain ⟨E2, hE2⟩ : ∃ E2, E2 = A + (md : Int) + M - (A + (t : Int)) := ⟨_, rfl⟩
        have hE1 : E2 ≤ M + (md : Int) - (t : Int) := by omega
        have hE3 : M + (md : Int) - (t : Int) ≤ E2 := by omega
        have hE4 : A + (md : Int) + M - (A + (t : Int)) = E2 := hE2.symm
        have HAE := HA.out
        have HPL := HP.out
        have HR : Hid (t < u → t < md → Calls Try.prog 64 #[.slice (some ⟨g, 0, none⟩) n cap, .int .i64 (A + (t : Int)), .int .i64 M, .int .i64 E2, .func (.func 29) #[] #[.pointer (some fp)]] wr (SQ S (P ++ U1 ++ V1 ++ U2 ++ (V2 ++ R)))) := Lib.hid fun q1 q2 =>
          rotate_ HE.out (P := P ++ U1) (U := U2) (V := V1) (R := V2 ++ R) (by simpa using hs0) cap (by rw [List.length_append]; omega) (by rw [lU2]; omega) (by rw [lV1]; omega) (by omega) (by omega)
        have HR0 : Hid (¬ (t < u ∧ t < md) → S (P ++ U1 ++ V1 ++ U2 ++ (V2 ++ R)) wr) := Lib.hid fun q => by
          by_cases q1 : t < u
          · have : V1 = [] := List.eq_nil_of_length_eq_zero (by omega)
            rw [this] at hs0 ⊢
            simpa using hs0
          · have : U2 = [] := List.eq_nil_of_length_eq_zero (by omega)
            rw [this] at hs0 ⊢
            simpa using hs0
        have H1 : Hid (∀ W, S (P ++ U1 ++ V1 ++ U2 ++ (V2 ++ R)) W → 0 < t → t < md → Calls Try.prog 52 #[.slice (some ⟨g, 0, none⟩) n cap, .int .i64 A, .int .i64 (A + (t : Int)), .int .i64 (A + (md : Int)), .func (.func 29) #[] #[.pointer (some fp)]] W (SymQ key S P U1 V1 (U2 ++ V2 ++ R))) := Lib.hid fun W hw q1 q2 =>
          HIH.out W P U1 V1 (U2 ++ V2 ++ R) _ _ _ (by omega) (by simpa using hw) (by omega) (by omega) (by omega) (by omega) (by omega) HSU.out.left HSV.out.left
        have H2 : Hid (∀ W M1, M1.length = md → S (P ++ M1 ++ U2 ++ V2 ++ R) W → t < u → md - t < v → Calls Try.prog 52 #[.slice (some ⟨g, 0, none⟩) n cap, .int .i64 (A + (md : Int)), .int .i64 E2, .int .i64 B, .func (.func 29) #[] #[.pointer (some fp)]] W (SymQ key S (P ++ M1) U2 V2 R)) := Lib.hid fun W M1 l1 hw q1 q2 =>
          HIH.out W (P ++ M1) U2 V2 R _ _ _ (by omega) hw (by rw [List.length_append]; omega) (by omega) (by omega) (by omega) (by omega) HSU.out.right HSV.out.right
        have LU1 := Lib.hid lU1
        have LU2 := Lib.hid lU2
        have LV1 := Lib.hid lV1
        have LV2 := Lib.hid lV2
        have htm : t ≤ md := by omega
        have hvm : md - t ≤ v := by omega
        clear hr h1 h2 hs0 hUl hVl hU1 hU2 hV1 hV2 lU1 lU2 lV1 lV2 hUe hVe hE2 HAE HPL
        have k3 : (A + (t : Int) < M ∧ M < E2) ∨ (A + (t : Int) < M ∧ ¬ M < E2) ∨ ¬ (A + (t : Int) < M) := by omega
        rcases k3 with ⟨k1, k2⟩ | ⟨k1, k2⟩ | k1
        focus
          go_wp2_with fail
          refine (HR.out (by omega) (by omega)).mono ?_
          rintro e wq ⟨rfl, hq⟩
          have HQ := Lib.hid hq
          clear hq
        rotate_left
        focus
          obtain ⟨wq, rfl⟩ : ∃ wq : World, wq = wr := ⟨_, rfl⟩
          have HQ := Lib.hid (HR0.out (by omega))
        rotate_left
        focus
          obtain ⟨wq, rfl⟩ : ∃ wq : World, wq = wr := ⟨_, rfl⟩
          have HQ := Lib.hid (HR0.out (by omega))
        rotate_left
        all_goals
          have k3 : (A < A + (t : Int) ∧ A + (t : Int) < A + (md : Int)) ∨ (A < A + (t : Int) ∧ ¬ A + (t : Int) < A + (md : Int)) ∨ ¬ (A < A + (t : Int)) := by omega
          rcases k3 with ⟨j1, j2⟩ | ⟨j1, j2⟩ | j1
          focus
            go_wp2_with fail
            refine (H1.out _ HQ.out (by omega) (by omega)).mono ?_
            rintro e wl ⟨rfl, M1, l1, hs1, hg1⟩
            have HH1 : Hid (Half key U1 V1 M1) := Lib.hid ⟨l1, hg1⟩
            have L1 : Hid (M1.length = md) := Lib.hid (by rw [l1, LU1.out, LV1.out]; omega)
            have HS2 : Hid (S (P ++ M1 ++ U2 ++ V2 ++ R) wl) := Lib.hid (by simpa using hs1)
            clear l1 hs1 hg1
          rotate_left
          focus
            obtain ⟨wl, rfl⟩ : ∃ wl : World, wl = wq := ⟨_, rfl⟩
            obtain ⟨M1, hM1⟩ : ∃ M1, M1 = U1 ++ V1 := ⟨_, rfl⟩
            have HH1 : Hid (Half key U1 V1 M1) := Lib.hid (hM1 ▸ Half.none HSU.out.left HSV.out.left (by rw [LU1.out, LV1.out]; omega))
            have L1 : Hid (M1.length = md) := Lib.hid (by rw [hM1, List.length_append, LU1.out, LV1.out]; omega)
            have HS2 : Hid (S (P ++ M1 ++ U2 ++ V2 ++ R) wl) := Lib.hid (by rw [hM1]; simpa using HQ.out)
            clear hM1
          rotate_left
          focus
            obtain ⟨wl, rfl⟩ : ∃ wl : World, wl = wq := ⟨_, rfl⟩
            obtain ⟨M1, hM1⟩ : ∃ M1, M1 = U1 ++ V1 := ⟨_, rfl⟩
            have HH1 : Hid (Half key U1 V1 M1) := Lib.hid (hM1 ▸ Half.none HSU.out.left HSV.out.left (by rw [LU1.out, LV1.out]; omega))
            have L1 : Hid (M1.length = md) := Lib.hid (by rw [hM1, List.length_append, LU1.out, LV1.out]; omega)
            have HS2 : Hid (S (P ++ M1 ++ U2 ++ V2 ++ R) wl) := Lib.hid (by rw [hM1]; simpa using HQ.out)
            clear hM1
          rotate_left
          all_goals
            have k3 : (A + (md : Int) < E2 ∧ E2 < B) ∨ (A + (md : Int) < E2 ∧ ¬ E2 < B) ∨ ¬ (A + (md : Int) < E2) := by omega
            rcases k3 with ⟨i1, i2⟩ | ⟨i1, i2⟩ | i1
            focus
              try (exfalso; omega)
              all_goals
                go_wp2_with fail
                refine (H2.out _ M1 L1.out HS2.out (by omega) (by omega)).mono ?_
                rintro e wz ⟨rfl, M2, l2, hs2, hg2⟩
                have HF := Lib.hid (HCOMB.out M1 M2 wz HH1.out ⟨l2, hg2⟩ (by simpa using hs2))
                clear l2 hs2 hg2
                go_wp2
                try go_returns
                try exact HF.out
            all_goals
              have HF := Lib.hid (HCOMB.out M1 (U2 ++ V2) wl HH1.out (Half.none HSU.out.right HSV.out.right (by rw [LU2.out, LV2.out]; omega)) (by simpa using HS2.out))
              go_wp2
              try go_returns
              try exact HF.out
end
end Go.Proofs.Ytgnimegdgphlmaa
