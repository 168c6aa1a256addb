/-
  Package topo: Support, walked.
-/
import Derived.Test.YtgnimegdgphlmaaSupA
namespace Go.Proofs.Ytgnimegdgphlmaa
open Go.ChangeShapes Go.WideShapes Go.ChangeAt Go.RowKit
set_option linter.unusedVariables false
set_option linter.unusedSimpArgs false
attribute [local go_sem ↓] Go.wp_at_zero Go.wp_at_succ
/-- The numbers from 0 to V that m has. -/
def lstN (m : Int → Bool) (n : Nat) : List Int := ((List.range n).filter fun (i : Nat) => m (i : Int)).map fun (i : Nat) => (i : Int)
theorem lstN_succ (m : Int → Bool) (n : Nat) : lstN m (n + 1) = if m n = true then lstN m n ++ [(n : Int)] else lstN m n := by
  unfold lstN
  rw [List.range_succ, List.filter_append, List.map_append]
  by_cases h : m n = true
  · rw [if_pos h]; simp [h]
  · rw [if_neg h]; simp [h]
theorem lstN_len (m : Int → Bool) (n : Nat) : (lstN m n).length ≤ n := by
  unfold lstN
  rw [List.length_map]
  have := List.length_filter_le (fun i : Nat => m (i : Nat)) (List.range n)
  rwa [List.length_range] at this
def GoodN (d : NetD) : Prop := soundN d = 0 ∧ ∃ V, SoundD d V ∧ Acyc (nodesN d) V
/-- The variables that literals hang on are told. -/
def SupQ (w : World) (d : NetD) (xs : List Int) (e : Ending) (w' : World) : Prop :=
  (¬ GoodN d ∧ RetI w [] e w') ∨ (GoodN d ∧ ∃ V m, SoundD d V ∧ (∀ v, m v = true ↔ InSup (nodesN d) V xs v) ∧ RetI w (lstN m (V + 1)) e w')
theorem RetI.nil {w w' : World} (hb : Below w.heap.size w w') : RetI w [] (.returned (.slice none 0 0)) w' := ⟨_, rfl, (OwnI.start w).below hb⟩
theorem SoundD.vuniq {d : NetD} {V V' : Nat} (h : SoundD d V) (h' : SoundD d V') : V = V' := by have := h.vars; have := h'.vars; omega
set_option maxHeartbeats 16000000 in
set_option maxRecDepth 100000 in
theorem topo_Support {w : World} {d : NetD} {vi vl vo vb vc vm va : Value} (h : NetP w d vi vl vo vb vc vm va) (hl0 : lightN d = true) {u : Value} {xs : List Int} (hI : Ints w u xs) (hxs : ∀ x ∈ xs, 0 ≤ x ∧ x ≤ 2305843009213693952) (hxl : xs.length ≤ 1000) :
    Calls Try.prog 12 #[netV d vi vl vo vb vc vm va, u] w (SupQ w d xs) := by
  obtain ⟨ai, ci, ni, al, cl, nl, ao, co, no, ab, cb, nb, ac, cc, nc, am, cm, nm, aa, ca, na, rfl, rfl, rfl, rfl, rfl, rfl, rfl, -, -⟩ := h.open_ (lightN_iff hl0).1
  obtain ⟨wb, hwb⟩ : ∃ wb, wb = w.alloc (.cells #[.int .i64 d.vars, .slice ai ni ci, .slice al nl cl, .slice ao no co, .slice ab nb cb, .slice ac nc cc, .slice am nm cm, .slice aa na ca] 27) := ⟨_, rfl⟩
  obtain ⟨bx, hbx⟩ : ∃ bx, bx = w.heap.size := ⟨_, rfl⟩
  have HB1 : Hid (Below w.heap.size w wb) := Lib.hid (by rw [hwb]; exact below_new1 w _)
  have HBX : Hid (NBox wb bx d (.slice ai ni ci) (.slice al nl cl) (.slice ao no co) (.slice ab nb cb) (.slice ac nc cc) (.slice am nm cm) (.slice aa na ca)) := Lib.hid (by rw [hwb, hbx]; exact NBox.new w _ _ _ _ _ _ _ _)
  have HP := Lib.hid (h.below HB1.out)
  have ht := topo_told HP.out hl0
  unfold netV at ht ⊢
  rw [hwb] at ht
  have HT := Lib.hid ht
  have HW1 := Lib.hid hwb
  have HBE := Lib.hid hbx
  have HL := Lib.hid hl0
  obtain ⟨au, cu, rfl, -, x1, x2, -⟩ := id hI
  obtain ⟨nx, hnx⟩ : ∃ n, n = xs.length := ⟨_, rfl⟩
  rw [← hnx] at hI x1 hxl ⊢
  have HI := Lib.hid hI
  have HXS := Lib.hid hxs
  have HNX := Lib.hid hnx
  unfold maxLen at x2
  clear h hl0 hwb hbx ht hI hxs hnx
  go_enter Try.func12, Try.ntmps12
  go_wp2_with fail
  refine HT.out.mono ?_
  rintro e w2 ⟨hb, ⟨h1, rfl⟩ | ⟨hs0, V, hs, ⟨hna, rfl⟩ | ⟨bw, bo, bm, bl, nv, m9, lv9, rfl, hlv, hwk⟩⟩⟩
  · rw [← HW1.out] at hb
    have HF : Hid (SupQ w d xs (.returned (.slice none 0 0)) (w2.alloc (.cells #[.pointer none] 61))) := Lib.hid (.inl ⟨fun hh => h1 hh.1, RetI.nil (HB1.out.trans ((hb.alloc hb.size _).mono HB1.out.size))⟩)
    obtain ⟨f, hf⟩ : ∃ f, f = soundN d := ⟨_, rfl⟩
    rw [← hf] at h1 ⊢
    have hb0 : (f != 0) = true := by rw [bne_iff_ne]; exact h1
    clear hb h1 hf
    go_wp2
    go_ret
    exact HF.out
  · rw [← HW1.out] at hb
    have HF : Hid (SupQ w d xs (.returned (.slice none 0 0)) (w2.alloc (.cells #[.pointer none] 61))) := Lib.hid (.inl ⟨fun hh => by
      obtain ⟨-, V', hs', hA'⟩ := hh
      obtain rfl := hs.vuniq hs'
      exact hna hA', RetI.nil (HB1.out.trans ((hb.alloc hb.size _).mono HB1.out.size))⟩)
    clear hb hs hna hs0
    go_wp2
    go_ret
    exact HF.out
  · rw [← HW1.out] at hb hwk
    have hV := hs.lim
    have HS := Lib.hid hs
    have HG : Hid (GoodN d) := Lib.hid ⟨hs0, V, hs, fun v h0 h1 => ⟨_, hlv v h0 h1⟩⟩
    have HB2 : Hid (Below w.heap.size w w2) := Lib.hid (HB1.out.trans (hb.mono HB1.out.size))
    have HWK := Lib.hid hwk
    have HBX2 := Lib.hid (HBX.out.later hb)
    have c0 := (HBX2.out.later (below_new1 w2 (.cells #[.pointer (some ⟨bw, 0, none⟩)] 61))).c0
    rw [HS.out.vars, HBE.out] at c0
    have hmk := fun W => run_makeN (P := Try.prog) 48 4 (.bool false) 1 1 Try.underlying48 infoB .i64 .i64 (V + 1) (V + 1) (Nat.le_refl _) (by omega) (by omega) W
    rw [show ((V + 1 : Nat) : Int) = (V : Int) + 1 by omega] at hmk
    clear hb hs hs0 hlv hwk
    rw [HS.out.vars]
    have hsf := fun (a : Addr) (c : Array Value) (w : World) => run_store Try.prog w a (.func (.func 24) #[] c) .plain rfl
    go_wp2
    obtain ⟨W4, hW4⟩ : ∃ W4 : World, W4 = ((((w2.alloc (.cells #[.pointer (some ⟨bw, 0, none⟩)] 61)).alloc (.cells (madeCells #[.bool false] (V + 1)) 4)).alloc (.cells #[.slice (some ⟨w2.heap.size + 1, 0, none⟩) (V + 1) (V + 1)] 48)).alloc (.cells #[.func (.func 24) #[] #[.pointer (some ⟨w.heap.size, 0, none⟩), .pointer (some ⟨w2.heap.size + 1 + 1, 0, none⟩), .pointer (some ⟨w2.heap.size, 0, none⟩), .pointer (some ⟨w2.heap.size + 1 + 1 + 1, 0, none⟩)]] 64)) := ⟨_, rfl⟩
    rw [← hW4]
    have hB4 : Below w2.heap.size w2 W4 := by rw [hW4]; exact ((((Below.refl _ w2).alloc (Nat.le_refl _) _).alloc (by simp) _).alloc (by simp; omega) _).alloc (by simp; omega) _
    have k1 : Blk W4 w2.heap.size 61 #[.pointer (some ⟨bw, 0, none⟩)] := by rw [hW4]; exact (((Blk.new w2 _ _).alloc _).alloc _).alloc _
    have k2 : VBlk W4 (w2.heap.size + 1) 4 (V + 1) (fun i => .bool ((fun _ : Int => false) i)) := by
      have h1 := VBlk.made1 (w2.alloc (.cells #[.pointer (some ⟨bw, 0, none⟩)] 61)) 4 (.bool false) (V + 1) (f := fun _ => .bool false) (fun i _ => rfl)
      rw [World.size_alloc] at h1
      rw [hW4]; exact Blk.alloc (Blk.alloc h1 _) _
    have k3 : Blk W4 (w2.heap.size + 1 + 1) 48 #[.slice (some ⟨w2.heap.size + 1, 0, none⟩) (V + 1) (V + 1)] := by
      have h1 := Blk.new ((w2.alloc (.cells #[.pointer (some ⟨bw, 0, none⟩)] 61)).alloc (.cells (madeCells #[.bool false] (V + 1)) 4)) 48 #[.slice (some ⟨w2.heap.size + 1, 0, none⟩) (V + 1) (V + 1)]
      rw [World.size_alloc, World.size_alloc] at h1
      rw [hW4]; exact h1.alloc _
    have k4 : Blk W4 (w2.heap.size + 1 + 1 + 1) 64 #[.func (.func 24) #[] #[.pointer (some ⟨w.heap.size, 0, none⟩), .pointer (some ⟨w2.heap.size + 1 + 1, 0, none⟩), .pointer (some ⟨w2.heap.size, 0, none⟩), .pointer (some ⟨w2.heap.size + 1 + 1 + 1, 0, none⟩)]] := by
      have h1 := Blk.new (((w2.alloc (.cells #[.pointer (some ⟨bw, 0, none⟩)] 61)).alloc (.cells (madeCells #[.bool false] (V + 1)) 4)).alloc (.cells #[.slice (some ⟨w2.heap.size + 1, 0, none⟩) (V + 1) (V + 1)] 48)) 64 #[.func (.func 24) #[] #[.pointer (some ⟨w.heap.size, 0, none⟩), .pointer (some ⟨w2.heap.size + 1 + 1, 0, none⟩), .pointer (some ⟨w2.heap.size, 0, none⟩), .pointer (some ⟨w2.heap.size + 1 + 1 + 1, 0, none⟩)]]
      rw [World.size_alloc, World.size_alloc, World.size_alloc] at h1
      rw [hW4]; exact h1
    obtain ⟨bp, hbp⟩ : ∃ b, b = w2.heap.size := ⟨_, rfl⟩
    rw [← hbp] at k1 k2 k3 k4 ⊢
    have hsp : Sp wb d V (.slice ai ni ci) (.slice al nl cl) (.slice ao no co) (.slice ab nb cb) (.slice ac nc cc) (.slice am nm cm) (.slice aa na ca) bw bo bm bl nv m9 lv9 w.heap.size (bp + 1 + 1) bp (bp + 1 + 1 + 1) (bp + 1) (fun _ => false) W4 := by
      have l0 := HWK.out.box.lt
      have l1 := HWK.out.of_.lt
      have l2 := HWK.out.mks.lt
      have l3 := HWK.out.lv.lt
      have l4 := HWK.out.low.size
      have l5 := HBX2.out.lt
      have l6 := HBE.out
      refine ⟨HWK.out.below hB4, by rw [← HBE.out]; exact HBX2.out.later hB4, k3, k1, k4, k2, ⟨by omega, by omega, by omega, by omega, by omega, fun e => ?_⟩, by omega, by omega, by omega, by omega⟩
      have := HWK.out.row.lt _ e
      omega
    have hB04 : Below w.heap.size w W4 := HB2.out.trans (hB4.mono HB2.out.size)
    have HSP := Lib.hid hsp
    have HB04 := Lib.hid hB04
    have HBG : Hid (w.heap.size ≤ bp + 1) := Lib.hid (by have := HB2.out.size; omega)
    clear hW4 hB4 k1 k2 k3 k4 hsp hB04 hbp c0 hmk hsf
    go_loopw [10, 27] (fun _ c wr => ∃ j : Nat, ∃ m : Int → Bool, j ≤ nx ∧ c = .int .i64 j ∧ SupI (nodesN d) V (xs.take j) m ∧ Sp wb d V (.slice ai ni ci) (.slice al nl cl) (.slice ao no co) (.slice ab nb cb) (.slice ac nc cc) (.slice am nm cm) (.slice aa na ca) bw bo bm bl nv m9 lv9 w.heap.size (bp + 1 + 1) bp (bp + 1 + 1 + 1) (bp + 1) m wr ∧ Chg (fun k => k = bp + 1) W4 wr) (fun _ c _ => nx - (intOf c).toNat)
    case atStart => exact ⟨0, _, Nat.zero_le _, rfl, SupI.start _ _, HSP.out, Chg.refl _ _⟩
    case round =>
      obtain ⟨j, m, hj, rfl, hsi, hsp, hC⟩ := hrel
      have HSI := Lib.hid hsi
      have HSPj := Lib.hid hsp
      have HC := Lib.hid hC
      have HBW : Hid (Below w.heap.size w wr) := Lib.hid (HB04.out.trans (hC.below HB04.out.size (fun k hk => by rw [hk]; exact HBG.out)))
      by_cases hlt : (j : Int) < (nx : Int)
      · have ca : wr.cell? ⟨bp + 1 + 1 + 1, 0, none⟩ = some (.func (.func 24) #[] #[.pointer (some ⟨w.heap.size, 0, none⟩), .pointer (some ⟨bp + 1 + 1, 0, none⟩), .pointer (some ⟨bp, 0, none⟩), .pointer (some ⟨bp + 1 + 1 + 1, 0, none⟩)]) := hsp.adb.cell 0
        clear hsi hsp hC
        have hjn : j < xs.length := by have := HNX.out; omega
        have hI2 := HI.out.below HBW.out
        obtain ⟨-, hii⟩ := ints_hii hI2
        obtain ⟨b, off, rfl, hcs⟩ := hii.resolve_left (fun e => by rw [e] at hjn; simp at hjn)
        have q := hcs j hjn
        have hyr := HXS.out (xs.getD j 0) (mem_getD 0 hjn)
        have hts := take_snocI hjn
        obtain ⟨y, hy⟩ : ∃ y, y = xs.getD j 0 := ⟨_, rfl⟩
        rw [← hy] at q hyr hts
        have hvar := litsVar_q y
        have hcn : cntB V m < V + 2 := by
          have : cnt V (fun u => if m u = true then 1 else 0) ≤ (List.range (V + 1)).length := List.countP_le_length
          rw [List.length_range] at this
          unfold cntB
          omega
        have hrec := add_ HL.out HS.out (V + 2) m (y / 2) wr.drew hcn (by omega) (by omega) (HSPj.out.below (Below.refl _ _).drew)
        have HVAR := Lib.hid hvar
        have HREC := Lib.hid hrec
        have HTS := Lib.hid hts
        clear hcs hii hts hy hjn hvar hI2 hcn hrec
        go_wp2
        go_region_held3 (fun w' => w'.cell? ⟨bp + 1 + 1 + 1, 0, none⟩ = some (.func (.func 24) #[] #[.pointer (some ⟨w.heap.size, 0, none⟩), .pointer (some ⟨bp + 1 + 1, 0, none⟩), .pointer (some ⟨bp, 0, none⟩), .pointer (some ⟨bp + 1 + 1 + 1, 0, none⟩)])) (go_keep) (first
          | (go_at_call 26; refine (HVAR.out _).mono ?_; rintro e w' ⟨rfl, rfl⟩)
          | (go_at_call 24; refine HREC.out.mono ?_; rintro e w9 ⟨rfl, hc9, m3, ha3, hs3⟩; have HC9 := Lib.hid hc9; have HA3 := Lib.hid ha3; have HS3 := Lib.hid hs3; have ca9 := HS3.out.adb.cell 0; clear hc9 ha3 hs3))
        clear ca ca9 q
        go_wp2
        go_roundw
        case rel =>
          refine ⟨j + 1, m3, by omega, by go_num, ?_, HS3.out, (HC.out.drew).trans HC9.out (fun i hi => .inl hi)⟩
          rw [HTS.out]
          exact HSI.out.step HA3.out
        case measure => simp [intOf]; omega
      · obtain rfl : j = nx := by omega
        have hfull : xs.take j = xs := List.take_of_length_le (by have := HNX.out; omega)
        rw [hfull] at HSI
        have HM := Lib.hid HSI.out.iff
        have ci2 : wr.cell? ⟨bp + 1 + 1, 0, none⟩ = some (.slice (some ⟨bp + 1, 0, none⟩) (V + 1) (V + 1)) := hsp.inb.cell 0
        have HVB := Lib.hid hsp.ins
        obtain ⟨wq, rfl⟩ : ∃ wq : World, wq = wr := ⟨_, rfl⟩
        clear hsi hsp hC hfull
        go_wp2
        clear ci2
        go_loopw [4, 11, 12, 38] (fun v _ _ c wr => ∃ k : Nat, k ≤ V + 1 ∧ c = .int .i64 k ∧ OwnI wq wr v (lstN m k)) (fun _ _ _ c _ => V + 1 - (intOf c).toNat)
        case atStart => exact ⟨0, Nat.zero_le _, rfl, OwnI.start wq⟩
        case round =>
          obtain ⟨k, hk, rfl, hO⟩ := hrel
          have HO := Lib.hid hO
          by_cases hltk : (k : Int) < (V : Int) + 1
          · have hkV : k < V + 1 := by omega
            have cb := (HVB.out.later hO.2.1).cell hkV
            have hsn := lstN_succ m k
            have HLN := Lib.hid (lstN_len m k)
            clear hO
            obtain ⟨q, hq⟩ : ∃ q, q = m (k : Int) := ⟨_, rfl⟩
            rw [← hq] at cb hsn
            have HSN := Lib.hid hsn
            clear hsn hq
            cases q with
            | true =>
              have HLB : Hid ((lstN m k).length + 1 ≤ 140737488355328 / 8) := Lib.hid (by have := HLN.out; omega)
              go_wp2_with (at_builtin; refine wpList_I (w := wq) rfl _ _ rfl _ (lstN m k) rfl (some ⟨wr.heap.size, 0, none⟩) 1 1 [(k : Int)] rfl rfl ?hb (HO.out.below (below_new1 wr (.cells #[.int .i64 (k : Int)] 3))) (Src.one (heap_new1 _ _)) ?_; (case hb => (have := HLN.out; omega)); intro v4 w4 h4; have H4 := Lib.hid h4; clear h4)
              go_roundw
              case rel => exact ⟨k + 1, by omega, by go_num, by rw [HSN.out, if_pos rfl]; exact H4.out⟩
              case measure => simp [intOf]; omega
            | false =>
              go_wp2
              go_roundw
              case rel => exact ⟨k + 1, by omega, by go_num, by rw [HSN.out, if_neg (by simp)]; exact HO.out⟩
              case measure => simp [intOf]; omega
          · obtain rfl : k = V + 1 := by omega
            have HF : Hid (SupQ w d xs (.returned u4) wr) := Lib.hid (.inr ⟨HG.out, V, m, HS.out, HM.out, u4, rfl, hO.from_ HBW.out⟩)
            clear hO
            go_wp2
            go_ret
            exact HF.out
end Go.Proofs.Ytgnimegdgphlmaa
