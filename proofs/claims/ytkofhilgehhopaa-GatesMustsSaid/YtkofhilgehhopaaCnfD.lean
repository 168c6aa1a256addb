/-
  Package cnf: Clauses, Size, Holds, walked; the reference's.
-/
import Derived.Test.YtkofhilgehhopaaCnfC
import Derived.Test.YtkofhilgehhopaaOwnS
namespace Go.Proofs.Ytkofhilgehhopaa
open Go.ChangeShapes Go.WideShapes Go.ChangeAt Go.RowKit
set_option linter.unusedVariables false
theorem Clauses_nil (w : World) : Calls Try.prog 27 #[.pointer none] w fun e w' => e = .returned (.slice none 0 0) ∧ w = w' := by
  go_enter Try.func27, Try.ntmps27
  go_wp2_with ((go_at_call 59; refine (all_nil _).mono ?_; rintro e w' ⟨rfl, rfl⟩))
  refine wp_loop_rounds 1 ?_
  rw [rounds_succ]
  go_wp2
  go_ret
  exact ⟨rfl, rfl⟩
theorem take_snocS {xss : List (List Int)} {k : Nat} (hk : k < xss.length) : xss.take (k + 1) = xss.take k ++ [xss.getD k []] := by
  rw [List.take_succ_eq_append_getElem hk]
  simp [List.getD, hk]
set_option maxHeartbeats 1000000 in
theorem Clauses_ {B : Nat} {w : World} {f : Nat} {vars : Int} {xss : List (List Int)} (h : FAt B w f vars xss) (hx : xss.length ≤ 1000000) (hl : ∀ j, j < xss.length → (xss.getD j []).length ≤ 1000000) :
    Calls Try.prog 27 #[.pointer (some ⟨f, 0, none⟩)] w fun e w' => ∃ u, e = .returned u ∧ OwnS w w' u xss := by
  obtain ⟨vl, c0, c1, h2⟩ := h.read
  have HA := Lib.hid (all_ c1)
  have HS := Lib.hid h2
  have HL := Lib.hid hl
  obtain ⟨a, cap, hv, -, -⟩ := h2.form
  obtain ⟨n, hn⟩ : ∃ n, n = xss.length := ⟨_, rfl⟩
  rw [← hn] at hv hx
  subst hv
  have HN := Lib.hid hn
  clear h c0 c1 h2 hn hl
  go_enter Try.func27, Try.ntmps27
  go_wp2_with ((go_at_call 59; refine (HA.out).mono ?_; rintro e w' ⟨rfl, rfl⟩))
  go_loopw [2, 8] (fun out i wr => ∃ k : Nat, k ≤ n ∧ i = .int .i64 k ∧ OwnS w wr out (xss.take k)) (fun _ i _ => n - (intOf i).toNat)
  case atStart => exact ⟨0, Nat.zero_le _, rfl, OwnS.start w⟩
  case round =>
    obtain ⟨k, hk, rfl, hO⟩ := hrel
    by_cases hlt : (k : Int) < (n : Int)
    · have hkn : k < xss.length := by have := HN.out; omega
      obtain ⟨b, off, cap', u, he, hcell, hint⟩ := HS.out.at_ hkn
      injection he with e1 e2 e3
      subst e1
      have hc := (hO.old.cell (p := ⟨b, off + k, none⟩) (World.block_lt_of_cell? w _ hcell)).trans hcell
      have HC := Lib.hid (slices_Clone (hint.below hO.old) (by have := HL.out k hkn; omega))
      have HT := Lib.hid (take_snocS hkn)
      have hlk : (xss.take k).length = k := by rw [List.length_take]; omega
      obtain ⟨us, o1, o2, o3, o4⟩ := hO
      rw [hlk] at o1
      have HK := Lib.hid hlk
      have O1 := Lib.hid o1
      have O2 := Lib.hid o2
      have O3 := Lib.hid o3
      have O4 := Lib.hid o4
      clear hint hcell hkn e2 e3 hlk o1 o2 o3 o4
      obtain ⟨ua, ul, uc, rfl⟩ : ∃ ua ul uc, u = .slice ua ul uc := by
        have := (HS.out.at_ (j := k) (by have := HN.out; omega))
        obtain ⟨_, _, _, u', h', h'', hi⟩ := this
        injection h' with g1 g2 g3
        injection g1 with g1
        injection g1 with g1 g4
        subst g1 g4
        have hz := hc.symm.trans ((O4.out.cell (p := ⟨_, off + k, none⟩) (World.block_lt_of_cell? w _ h'')).trans h'')
        injection hz with hz
        obtain ⟨a', cap', hu', -⟩ := hi
        exact ⟨_, _, _, hz.trans hu'⟩
      go_wp2_with fail
      refine HC.out.mono ?_
      rintro e w2 ⟨uz, rfl, hp⟩
      obtain ⟨va, vc, rfl⟩ := clone_form hp
      have HP := Lib.hid hp
      have HR : Hid (Row (w2.alloc (.cells #[.slice va (xss.getD k []).length vc] 32)) 32 1 u2 k us) := Lib.hid ((O1.out.chg (S := fun _ => False) (Chg.of_below hp.2.2) (fun _ _ h => h)).alloc _)
      clear hp
      go_wp2_with (at_builtin; refine wpList_app rfl _ _ _ rfl 32 (.slice none 0 0) 1 24 Try.underlying45 infoL rfl (by decide) u2 k us rfl ?ho w2.heap.size 0 1 1 [.slice va (xss.getD k []).length vc] rfl rfl ?hn ?hs ?c1 ?c2 ?_)
      case ho => exact HR.out
      case hn => exact cellNew _ _ _ _ rfl
      case hs => exact oneCell1 rfl
      case c1 => unfold maxLen; omega
      case c2 => omega
      intro v' w3 hp3
      have hfin : OwnS w w3 v' (xss.take (k + 1)) := by
        rw [HT.out]
        have hb := HP.out.2.2
        have hlk := HK.out
        refine OwnS.app (wr := w2) (us := us) (by rw [hlk]; exact O1.out.chg (S := fun _ => False) (Chg.of_below hb) (fun _ _ h => h)) O2.out (O3.out.below hb) (O4.out.trans (hb.mono O4.out.size)) HP.out.1.ints (fun g hg => ⟨fun e => ?_, HP.out.1.lt g hg⟩) (by rw [hlk]; exact hp3)
        have q1 := HP.out.2.1 g hg
        have q2 := O1.out.lt g e
        omega
      have HF := Lib.hid hfin
      clear hp3 hfin
      go_wp2
      go_roundw
      case rel => exact ⟨k + 1, by omega, by go_num, HF.out⟩
      case measure => simp [intOf]; omega
    · have HZ := Lib.hid hO
      have hkn : k = n := by omega
      have HK := Lib.hid hkn
      clear hO hkn
      go_wp2
      go_ret
      refine ⟨_, rfl, ?_⟩
      have := HZ.out
      rw [HK.out, HN.out, List.take_length] at this
      exact this
end Go.Proofs.Ytkofhilgehhopaa
