/-
  Package trace: Print, walked.
-/
import Derived.Test.YtibinmabdidecaaGreatDoorTrA
import Derived.Test.YtibinmabdidecaaGreatDoorTrD
import Derived.Deep.RegionHeld3
namespace Go.Proofs.YtibinmabdidecaaGreatDoor
open Go.ChangeShapes Go.WideShapes Go.ChangeAt Go.RowKit
set_option linter.unusedVariables false
def decT (n : Int) : List UInt8 := Lib.decDigits n.toNat
def cellT (i : Nat) (c : Int × Int) : List UInt8 := lineT [99, 101, 108, 108] [decT i, decT c.1, decT c.2]
def memT (i : Nat) (cs : CS) : List UInt8 := cs.flatMap (cellT i)
def memsT (mems : List CS) (k : Nat) : List UInt8 := (List.range k).flatMap fun i => memT i (mems.getD i [])
def cycT (l : List Bool) : List UInt8 := lineT [99, 121, 99, 108, 101] [truT l]
def headT (d : TrD) : List UInt8 := lineT [116, 114, 97, 99, 101] [decT d.lat.length, decT d.mems.length] ++ lineT [108, 97, 116, 99, 104, 101, 115] [truT d.lat]
def printT (d : TrD) : List UInt8 := headT d ++ memsT d.mems d.mems.length ++ d.ins.flatMap cycT ++ lineT [98, 97, 100] [decT d.bad]
theorem decT_len {n : Int} (h : n < 18446744073709551616) : (decT n).length ≤ 20 := dec_len 19 _ (by omega)
theorem cellT_len (i : Nat) (hi : i < 100) {c : Int × Int} (h : wf c.1 ∧ wf c.2) : (cellT i c).length ≤ 100 := by
  have h1 := decT_len (n := (i : Int)) (by omega)
  have h2 := decT_len h.1.2
  have h3 := decT_len h.2.2
  simp only [cellT, lineT, wordT, List.flatMap_cons, List.flatMap_nil, List.length_append, List.length_cons, List.length_nil]
  omega
theorem memT_len {i : Nat} (hi : i < 100) {cs : CS} (h : ∀ p ∈ cs, wf p.1 ∧ wf p.2) : ∀ k, k ≤ cs.length → ((cs.take k).flatMap (cellT i)).length ≤ k * 100
  | 0, _ => by simp
  | k + 1, hk => by
    rw [flat_step (cellT i) (0, 0) (by omega), List.length_append, Nat.succ_mul]
    have := memT_len hi h k (by omega)
    have := cellT_len i hi (wf_getD h k)
    omega
theorem cycT_len {l : List Bool} (h : l.length ≤ 4200) : (cycT l).length ≤ 5100 := by
  have := truT_len l h
  simp only [cycT, lineT, wordT, List.flatMap_cons, List.flatMap_nil, List.length_append, List.length_cons, List.length_nil]
  omega
theorem cycs_len {ins : List (List Bool)} (h : ∀ k, k < ins.length → (ins.getD k []).length ≤ 4200) : ∀ k, k ≤ ins.length → ((ins.take k).flatMap cycT).length ≤ k * 5100
  | 0, _ => by simp
  | k + 1, hk => by
    rw [flat_step cycT [] (by omega), List.length_append, Nat.succ_mul]
    have := cycs_len h k (by omega)
    have := cycT_len (h k (by omega))
    omega
theorem memsT_succ (mems : List CS) (k : Nat) : memsT mems (k + 1) = memsT mems k ++ memT k (mems.getD k []) := by
  unfold memsT
  rw [List.range_succ, List.flatMap_append]
  simp
theorem memsT_len {mems : List CS} (h : ∀ k, k < mems.length → (∀ p ∈ mems.getD k [], wf p.1 ∧ wf p.2) ∧ (mems.getD k []).length ≤ 4096) (hm : mems.length ≤ 100) : ∀ k, k ≤ mems.length → (memsT mems k).length ≤ k * 409600
  | 0, _ => by simp [memsT]
  | k + 1, hk => by
    rw [memsT_succ, List.length_append, Nat.succ_mul]
    have := memsT_len h hm k (by omega)
    obtain ⟨h1, h2⟩ := h k (by omega)
    have h3 := memT_len (i := k) (by omega) h1 _ (Nat.le_refl _)
    rw [List.take_length] at h3
    have : (mems.getD k []).length * 100 ≤ 4096 * 100 := Nat.mul_le_mul_right _ h2
    unfold memT
    omega
theorem headT_len {d : TrD} (h1 : d.lat.length ≤ 4096) (h2 : d.mems.length ≤ 4096) : (headT d).length ≤ 6000 := by
  have a := decT_len (n := (d.lat.length : Int)) (by omega)
  have b := decT_len (n := (d.mems.length : Int)) (by omega)
  have := truT_len d.lat (by omega)
  simp only [headT, lineT, wordT, List.flatMap_cons, List.flatMap_nil, List.length_append, List.length_cons, List.length_nil]
  omega
/-- The printer, made in the world w1 as its next block, holds this text. -/
def PrI (w1 : World) (text : List UInt8) (wr : World) : Prop := Bd w1.heap.size w1.heap.size text wr ∧ Below w1.heap.size w1 wr
theorem PrI.below {w1 W W' : World} {t : List UInt8} (h : PrI w1 t W) (hb : Below W.heap.size W W') : PrI w1 t W' := ⟨h.1.below hb, h.2.trans (hb.mono h.2.size)⟩
theorem number_at {w1 W0 : World} {text : List UInt8} (ht : Tab w1) (hI : PrI w1 text W0) (x : Int) (h0 : 0 ≤ x) (h1 : x < 18446744073709551616) : ∀ W, Below W0.heap.size W0 W →
    Calls Tryz.prog 26 #[.int .u64 x] W fun e w' => e = .returned (.string (bs (decT x))) ∧ Below W0.heap.size W0 w' ∧ Below w1.heap.size w1 w' := by
  intro W hW
  have hb : Below w1.heap.size w1 W := hI.2.trans (hW.mono hI.2.size)
  have := number_ x.toNat (by omega) (ht.below hb)
  rw [Int.toNat_of_nonneg h0] at this
  exact this.mono fun e w' ⟨h1, h2⟩ => ⟨h1, hW.trans (h2.mono hW.size), hb.trans (h2.mono hb.size)⟩
theorem truths_at {w1 W0 : World} {text : List UInt8} (hI : PrI w1 text W0) {v : Value} {l : List Bool} (h : Bo w1 v l) (hl : l.length ≤ 100000) : ∀ W, Below W0.heap.size W0 W →
    Calls Tryz.prog 27 #[v] W fun e w' => e = .returned (.string (bs (truT l))) ∧ Below W0.heap.size W0 w' ∧ Below w1.heap.size w1 w' := by
  intro W hW
  have hb : Below w1.heap.size w1 W := hI.2.trans (hW.mono hI.2.size)
  exact (truths_ (h.below stays_bo hb) hl).mono fun e w' ⟨h1, h2⟩ => ⟨h1, hW.trans (h2.mono hW.size), hb.trans (h2.mono hb.size)⟩
theorem line_at {w1 W0 : World} {text : List UInt8} (hI : PrI w1 text W0) (wd : ByteArray) (word : List UInt8) (hwd : wd = bs word) (cs : Array Value) (ls : List (List UInt8)) (hcs : cs = strsA ls) (n : Nat) (hn : n = ls.length) (hw : word.length ≤ 100) (hc : ls.length ≤ 100) (hl : ∀ l ∈ ls, l.length ≤ 5000) (hlen : text.length ≤ 1000000000000) :
    ∀ W, Below W0.heap.size W0 W → ∀ c, Calls Tryz.prog 25 #[.pointer (some ⟨w1.heap.size, 0, none⟩), .string wd, .slice (some ⟨W.heap.size, 0, none⟩) n c] (W.alloc (.cells cs 9)) fun e w' => e = .returned (.tuple #[]) ∧ PrI w1 (text ++ lineT word ls) w' ∧ Keep W w' := by
  intro W hW c
  subst hwd hcs hn
  have hb : Below w1.heap.size w1 W := hI.2.trans (hW.mono hI.2.size)
  have hb2 : Below w1.heap.size w1 (W.alloc (.cells (strsA ls) 9)) := hb.alloc hb.size _
  have hW2 : Below W0.heap.size W0 (W.alloc (.cells (strsA ls) 9)) := hW.alloc hW.size _
  exact (line_ (hI.1.below hW2) hb2.size word ls W.heap.size (Blk.new W 9 _) ls.length c rfl hw hc (fun k hk => hl _ (by simp [List.getD, hk])) hlen).mono fun e w' ⟨h1, h2, h3, h4⟩ => ⟨h1, ⟨h2, hb2.trans h3⟩, fun q t cs e1 e2 hq => h4 q t cs e1 e2 (hq.alloc _)⟩
end Go.Proofs.YtibinmabdidecaaGreatDoor
