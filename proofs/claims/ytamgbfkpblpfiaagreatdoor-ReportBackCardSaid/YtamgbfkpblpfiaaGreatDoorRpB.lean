/-
  Package report: a line into the printer; numbers.
-/
import Derived.Test.YtamgbfkpblpfiaaGreatDoorRpA
import Derived.Test.YtamgbfkpblpfiaaGreatDoorTrE
import Derived.Test.YtamgbfkpblpfiaaGreatDoorBuildR
import Derived.Lib.Join
import Derived.Deep.RegionHeld3
namespace Go.Proofs.YtamgbfkpblpfiaaGreatDoor
open Go.ChangeShapes Go.WideShapes Go.ChangeAt Go.RowKit
set_option linter.unusedVariables false
theorem map_bs (l : List (List UInt8)) : (l.map bs).map (·.data.toList) = l := by
  rw [List.map_map]
  have : ((fun (b : ByteArray) => b.data.toList) ∘ bs) = id := by funext m; rfl
  rw [this, List.map_id]
theorem join_line (x : List UInt8) (r : List (List UInt8)) : Lib.join (x :: r) [32] ++ [10] = lineT x r := by
  rw [Lib.join_cons]
  unfold lineT Lib.joinTail
  rw [List.flatMap]
  rfl
/-- The printer, made in the world w1 as its next block, holds this text. -/
def RPI (w1 : World) (text : List UInt8) (wr : World) : Prop := R.Bd w1.heap.size w1.heap.size text wr ∧ Below w1.heap.size w1 wr
theorem RPI.below {w1 W W' : World} {t : List UInt8} (h : RPI w1 t W) (hb : Below W.heap.size W W') : RPI w1 t W' := ⟨h.1.below hb, h.2.trans (hb.mono h.2.size)⟩
theorem lineT_len {x : List UInt8} {r : List (List UInt8)} (hx : x.length ≤ 100) (hr : ∀ l ∈ r, l.length ≤ 5000) (hn : r.length ≤ 200) : (lineT x r).length ≤ 1100000 := by
  have h := words_len (ls := r) (fun k hk => hr _ (by simp [List.getD, hk])) r.length (Nat.le_refl _)
  rw [List.take_length] at h
  have : r.length * 5001 ≤ 200 * 5001 := Nat.mul_le_mul_right _ hn
  unfold lineT
  simp only [List.length_append, List.length_singleton]
  omega
set_option maxHeartbeats 2000000 in
set_option maxRecDepth 100000 in
theorem rline_ {w1 W : World} {text : List UInt8} (hI : RPI w1 text W) (x : List UInt8) (r : List (List UInt8)) (hx : x.length ≤ 100) (hr : ∀ l ∈ r, l.length ≤ 5000) (hn : r.length ≤ 200) (hlen : text.length ≤ 1000000000000)
    (q n c : Nat) (hnn : n = (x :: r).length) (hq : q < W.heap.size) (hc : n ≤ c) (hcell : ∀ j, j < (x :: r).length → W.cell? ⟨q, j, none⟩ = some (.string (bs ((x :: r).getD j [])))) :
    Calls Tryz.prog 30 #[.pointer (some ⟨w1.heap.size, 0, none⟩), .slice (some ⟨q, 0, none⟩) n c] W fun e w' => e = .returned (.tuple #[]) ∧ RPI w1 (text ++ lineT x r) w' := by
  have hL := lineT_len hx hr hn
  have hj := Tryz.strings_Join q 0 c ((x :: r).map bs) ⟨#[32]⟩ W.drew (by
    intro j y hy
    rw [List.getElem?_map] at hy
    obtain ⟨l, hl, rfl⟩ := Option.map_eq_some_iff.1 hy
    have hjl := (List.getElem?_eq_some_iff.1 hl).1
    rw [Nat.zero_add]
    have := hcell j hjl
    rw [List.getD_eq_getElem?_getD, hl] at this
    exact this) (by simpa using hq) (by simp; omega) (by simp at hnn ⊢; omega) (by
    have e : ((x :: r).map bs).map (·.data.toList) = x :: r := map_bs _
    rw [e]
    have := congrArg List.length (join_line x r)
    rw [List.length_append] at this
    have e32 : (⟨#[32]⟩ : ByteArray).data.toList = [32] := rfl
    rw [e32]
    omega)
  have e : ((x :: r).map bs).map (·.data.toList) = x :: r := map_bs _
  have e32 : (⟨#[32]⟩ : ByteArray).data.toList = [32] := rfl
  rw [e, e32, List.length_map, ← hnn] at hj
  have hcat : bs (lineT x r) = bs (Lib.join (x :: r) [32]) ++ (⟨#[10]⟩ : ByteArray) := by rw [← join_line]; exact (bs_app _ [10]).symm
  have hsz : (bs (Lib.join (x :: r) [32])).size ≤ 1100000 := by
    have := congrArg List.length (join_line x r)
    rw [List.length_append] at this
    rw [bs_size]
    omega
  have h10 : (⟨#[10]⟩ : ByteArray).size = 1 := rfl
  have r1 := fun W => run_cat (P := Tryz.prog) W (bs (Lib.join (x :: r) [32])) (⟨#[10]⟩ : ByteArray) (bs (lineT x r)) (by omega) hcat
  have HJ : Hid (Calls Tryz.prog 68 #[.slice (some ⟨q, 0, none⟩) n c, .string ⟨#[32]⟩] W.drew fun e w' => e = .returned (.string (bs (Lib.join (x :: r) [32]))) ∧ Below W.drew.heap.size W.drew w') := Lib.hid hj
  have HW : Hid (∀ W', Below W.drew.heap.size W.drew W' → Calls Tryz.prog 34 #[.pointer (some ⟨w1.heap.size, 0, none⟩), .string (bs (lineT x r))] W' fun e w' => e = .returned (.tuple #[.int .i64 (lineT x r).length, .nilIface]) ∧ RPI w1 (text ++ lineT x r) w') := Lib.hid fun W' hW => by
    have h1 : RPI w1 text W' := hI.below ((Below.refl W.heap.size W).drew.trans (hW.mono (Nat.le_refl _)))
    refine (h1.1.write (lineT x r) (by omega) h1.2.size).mono ?_
    rintro e w' ⟨h2, h3, h4, -⟩
    exact ⟨h2, h3, h1.2.trans h4⟩
  generalize bs (lineT x r) = s1 at *
  generalize bs (Lib.join (x :: r) [32]) = s2 at *
  generalize (lineT x r).length = ll at *
  clear hj hcat hsz h10 hcell hL e e32 hI hnn
  go_enter Tryz.func30, Tryz.ntmps30
  go_wp2
  go_region_with (first
    | (go_at_call 68; (with_reducible refine HJ.out.mono ?_); rintro e wa ⟨rfl, hb⟩; have HB := Lib.hid hb; clear hb)
    | (go_at_call 34; (with_reducible refine (HW.out _ HB.out).mono ?_); rintro e wb ⟨rfl, hI⟩; have HI := Lib.hid hI; clear hI))
  go_wp2
  go_returns
  exact ⟨rfl, HI.out⟩
end Go.Proofs.YtamgbfkpblpfiaaGreatDoor
