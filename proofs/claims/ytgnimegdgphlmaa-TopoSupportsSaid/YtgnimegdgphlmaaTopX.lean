/-
  Package topo: visit's mark, walked; small laws.
-/
import Derived.Test.YtgnimegdgphlmaaTopW
namespace Go.Proofs.Ytgnimegdgphlmaa
open Go.ChangeShapes Go.WideShapes Go.ChangeAt Go.RowKit
set_option linter.unusedVariables false
set_option linter.unusedSimpArgs false
attribute [local go_sem ↓] Go.wp_at_zero Go.wp_at_succ
theorem nodes_len {d : NetD} {V : Nat} (h : SoundD d V) : (nodesN d).length ≤ 2016 := by
  have h1 : ∀ (l : List MemD) (f : Nat → Nat), (∀ m ∈ l, m.rd.length ≤ 4) → (l.mapIdx fun i x => memNodes (f i) x).flatten.length ≤ 4 * l.length := by
    intro l
    induction l with
    | nil => intro f _; simp
    | cons a l ih =>
      intro f ha
      rw [List.mapIdx_cons, List.flatten_cons, List.length_append, List.length_cons]
      have := ih (fun i => f (i + 1)) (fun m hm => ha m (List.mem_cons_of_mem _ hm))
      have h2 := ha a (List.mem_cons_self ..)
      have h3 : (memNodes (f 0) a).length = a.rd.length := by simp [memNodes]
      omega
  have h2 : (d.mems.mapIdx memNodes).flatten.length ≤ 4 * d.mems.length := h1 d.mems id h.rds
  have h3 := h.ands
  have h4 := h.mems
  unfold nodesN
  rw [List.length_append, List.length_mapIdx]
  omega
open Classical in
/-- A variable's level, where there is one. -/
noncomputable def levOf (l : List NodeD) (v : Int) : Nat := if h : ∃ k, Lev l v k then h.choose else 0
theorem levOf_eq {l : List NodeD} {V : Nat} (ok : NodesOK l V) {v : Int} {k : Nat} (h : Lev l v k) : levOf l v = k := by
  have he : ∃ k, Lev l v k := ⟨k, h⟩
  unfold levOf
  rw [dif_pos he]
  exact he.choose_spec.uniq ok h
theorem ints_hii {w : World} {A : Option Addr} {n cap : Nat} {xs : List Int} (h : Ints w (.slice A n cap) xs) : n = xs.length ∧ (xs = [] ∨ ∃ b off, A = some ⟨b, off, none⟩ ∧ ∀ j, j < xs.length → w.cell? ⟨b, off + j, none⟩ = some (.int .i64 (xs.getD j 0))) := by
  obtain ⟨a9, c9, e9, -, -, -, h9⟩ := h
  injection e9 with e91 e92 e93
  rw [e91]; exact ⟨e92, h9⟩
theorem ints_cap {w : World} {A : Option Addr} {n cap : Nat} {xs : List Int} (h : Ints w (.slice A n cap) xs) : n ≤ cap ∧ cap ≤ 9223372036854775807 := by
  obtain ⟨a9, c9, e9, -, h1, h2, -⟩ := h
  injection e9 with e91 e92 e93
  unfold maxLen at h2
  subst e92 e93
  exact ⟨h1, by omega⟩
set_option maxHeartbeats 4000000 in
set_option maxRecDepth 100000 in
theorem mark_ {w0 W : World} {d : NetD} {V : Nat} {vi vl vo vb vc vm va : Value} {bw bo bm bl : Nat} {nv : Value} {ns : List NodeD} {fo fm fl : Nat → Nat} (h : Wk w0 d V vi vl vo vb vc vm va bw bo bm bl nv ns fo fm fl W)
    {b6 b2 : Nat} {A : Option Addr} {n cap : Nat} {xv : List Int} (h6 : Blk W b6 22 #[.slice A n cap]) (h2 : Blk W b2 61 #[.pointer (some ⟨bw, 0, none⟩)]) (hI : Ints W (.slice A n cap) xv) (hv : ∀ v ∈ xv, 1 ≤ v ∧ v ≤ (V : Int)) (n6 : b6 ≠ bm) (n2 : b2 ≠ bm)
    (nI : ∀ k, (Value.slice A n cap).ownBlock = some k → k ≠ bm) (hV : V ≤ 2000) (a : Nat) (ha : a ≤ 2) :
    Calls Try.prog 63 #[.int .u8 a, .pointer (some ⟨b6, 0, none⟩), .pointer (some ⟨b2, 0, none⟩)] W fun e w' => e = .returned (.tuple #[]) ∧ Wk w0 d V vi vl vo vb vc vm va bw bo bm bl nv ns fo (fun i => if (i : Int) ∈ xv then a else fm i) fl w' ∧ Chg (fun k => k = bm) W w' := by
  have k6 : W.cell? ⟨b6, 0, none⟩ = some (.slice A n cap) := h6.cell 0
  obtain ⟨hn, -⟩ := ints_hii hI
  obtain ⟨z1, z2⟩ := ints_cap hI
  have H := Lib.hid h
  have HI := Lib.hid hI
  have HV := Lib.hid hv
  have H2 := Lib.hid h2
  have N6 := Lib.hid n6
  have N2 := Lib.hid n2
  have NI := Lib.hid nI
  have HN := Lib.hid hn
  clear h hI hv h2 h6 n6 n2 nI hn
  go_enter Try.func63, Try.ntmps63
  go_wp2
  clear k6
  go_loopw [5, 8] (fun _ i wr => ∃ t : Nat, t ≤ n ∧ i = .int .i64 t ∧ Wk w0 d V vi vl vo vb vc vm va bw bo bm bl nv ns fo (fun i => if (i : Int) ∈ xv.take t then a else fm i) fl wr ∧ Chg (fun k => k = bm) W wr) (fun _ i _ => n - (intOf i).toNat)
  case atStart => exact ⟨0, Nat.zero_le _, rfl, by simpa using H.out, Chg.refl _ _⟩
  case round =>
    obtain ⟨t, ht, rfl, hW, hC⟩ := hrel
    have HW := Lib.hid hW
    have HC := Lib.hid hC
    by_cases hlt : (t : Int) < (n : Int)
    · have htn : t < xv.length := by have := HN.out; omega
      have hI2 := HI.out.chg hC (fun k hk e => NI.out k hk e)
      obtain ⟨-, hii⟩ := ints_hii hI2
      obtain ⟨b, off, rfl, hcs⟩ := hii.resolve_left (fun e => by rw [e] at htn; simp at htn)
      have q := hcs t htn
      have hv := HV.out (xv.getD t 0) (mem_getD 0 htn)
      have hts := take_snocI htn
      obtain ⟨v, hv9⟩ : ∃ v, v = xv.getD t 0 := ⟨_, rfl⟩
      rw [← hv9] at q hv hts
      obtain ⟨vn, rfl⟩ : ∃ vn : Nat, v = vn := ⟨v.toNat, by omega⟩
      have hvV : vn < V + 1 := by omega
      obtain ⟨-, -, c10, -⟩ := hW.c
      have k2 : wr.cell? ⟨b2, 0, none⟩ = some (.pointer (some ⟨bw, 0, none⟩)) := (H2.out.chg hC (fun e => N2.out e)).cell 0
      have cm' := hW.mks.cell hvV
      have fm' := hW.mks.frozen vn
      generalize (Value.int .u8 ((if ((vn : Nat) : Int) ∈ xv.take t then a else fm vn : Nat) : Int)) = old at cm'
      have HTS := Lib.hid hts
      have hv1 : 0 ≤ (vn : Int) := by omega
      have hv2 : (vn : Int) < (V : Int) + 1 := by omega
      clear hcs hii hts hv9 htn hv hW hC hI2
      go_wp2
      go_roundw
      case rel =>
        refine ⟨t + 1, by omega, by go_num, ?_, ?_⟩
        · have h1 := HW.out.setMk vn a
          have h2 := h1.ext (fo' := fo) (fm' := fun i => if (i : Int) ∈ xv.take (t + 1) then a else fm i) (fl' := fl) (fun _ _ => rfl) (fun i _ => by
            rw [HTS.out]
            by_cases e : i = vn
            · subst e; simp
            · have e2 : (i : Int) ≠ (vn : Int) := by omega
              simp [e, e2]) (fun _ _ => rfl)
          exact h2
        · exact HC.out.setCell (p := ⟨bm, vn, none⟩) (.inl rfl) _
      case measure => simp [intOf]; omega
    · obtain rfl : t = n := by omega
      clear hW hC
      go_wp2
      go_end0
      refine ⟨rfl, ?_, HC.out⟩
      have h1 := HW.out
      rw [List.take_of_length_le (by have := HN.out; omega)] at h1
      exact h1
end Go.Proofs.Ytgnimegdgphlmaa
