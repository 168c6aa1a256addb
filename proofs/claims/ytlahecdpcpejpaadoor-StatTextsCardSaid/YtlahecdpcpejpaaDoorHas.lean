/-
  slices.ContainsFunc at a slice of structs, over any program: elements told by a relation of their cells.
-/
import Derived.Shelf.SlicesQ.IndexFunc
import Derived.Lib.Hide
namespace Go.Proofs.YtlahecdpcpejpaaDoor
open Go Go.RowKit Go.Shelf Go.Lib
set_option linter.unusedVariables false
section
variable {P : Program} {ρ : Ren}
set_option maxHeartbeats 2000000 in
theorem has_none (L : SlLaysH0.n8 P ρ) (A : Option Addr) (c : Nat) (fv : Value) (w : World) : Calls P (ρ.f 8) #[.slice A 0 c, fv] w fun e w' => e = .returned (.bool false) ∧ w = w' := by
  have mixed := L.mixed; have t0 := L.t0; have a0 := L.a0; have z0 := L.z0; have v0 := L.v0; have t3 := L.t3; have a3 := L.a3; have z3 := L.z3; have v3 := L.v3; have t4 := L.t4; have a4 := L.a4; have z4 := L.z4; have v4 := L.v4; have t22 := L.t22; have a22 := L.a22; have z22 := L.z22; have v22 := L.v22; have t25 := L.t25; have a25 := L.a25; have z25 := L.z25; have v25 := L.v25
  have e6 : ∀ args w, (callFunc (ρ.f 6) args).run P w = .ok (.enter (ρ.f 6) args) w := L.f6.enters rfl
  have h6 : Calls P (ρ.f 6) #[.slice A 0 c, fv] w fun e w' => e = .returned (.int .i64 (-1)) ∧ w = w' := by
    obtain ⟨_, _, FG⟩ := L.f6
    go_enter FG, SlBodyH.n6_ntmps ρ
    go_wp2
    go_loopg [5, 8] 0 (fun gg _ s8 wr => s8 = .int .i64 0 ∧ wr = w)
    case atStart => exact ⟨rfl, rfl⟩
    case round =>
      obtain ⟨rfl, rfl⟩ := hrel
      go_wp2
      go_ret
      exact ⟨rfl, rfl⟩
  obtain ⟨_, _, FG⟩ := L.f8
  go_enter FG, SlBodyH.n8_ntmps ρ
  go_wp2_with (go_at_fn (ρ.f 6); refine h6.mono ?_; rintro e w' ⟨rfl, rfl⟩)
  go_ret
  exact ⟨rfl, rfl⟩
theorem has_q (L : SlLaysH0.n8 P ρ) {β : Type} (k : Nat) (aE : ∀ w, (isAgg (ρ.t 23)).run P w = .ok true w) (zE : ∀ w, (Go.sizeOf (ρ.t 23)).run P w = .ok k w)
    (RL : World → List Value → β → Prop) (hst : ∀ w w' cs x, RL w cs x → Below w.heap.size w w' → RL w' cs x) (hk : ∀ w cs x, RL w cs x → cs.length = k) (hk0 : 0 < k)
    (p : β → Bool) (g : Nat) (lb : Array Value) (eg : ∀ args w, (callFunc g args).run P w = .ok (.enter g args) w) {A : Option Addr} {n c : Nat} {xs : List β} {d : β} {w : World} (hn : n = xs.length) (hbig : n ≤ 9223372036854775807)
    (hp : ∀ W cs x, Below w.heap.size w W → RL W cs x → Calls P g (#[.agg cs.toArray] ++ lb) W fun e w' => e = .returned (.bool (p x)) ∧ Below W.heap.size W w')
    (h : xs = [] ∨ ∃ b off, A = some ⟨b, off, none⟩ ∧ ∀ j, j < xs.length → ∃ cs, RL w cs (xs.getD j d) ∧ ∀ i v, cs[i]? = some v → w.cell? ⟨b, off + j * k + i, none⟩ = some v) :
    Calls P (ρ.f 8) #[.slice A n c, .func (.func g) #[] lb] w fun e w' => e = .returned (.bool (xs.any p)) ∧ Below w.heap.size w w' := by
  rcases h with rfl | ⟨b, off, rfl, hc⟩
  · subst hn
    exact (has_none L A c _ w).mono fun e w' ⟨h1, h2⟩ => ⟨h1, h2 ▸ Below.refl _ _⟩
  · by_cases h0 : xs = []
    · subst h0; subst hn
      exact (has_none L _ c _ w).mono fun e w' ⟨h1, h2⟩ => ⟨h1, h2 ▸ Below.refl _ _⟩
    have hpos : 0 < xs.length := List.length_pos_iff.2 h0
    obtain ⟨cf, hcf⟩ : ∃ cf : Nat → List Value, ∀ j, j < xs.length → RL w (cf j) (xs.getD j d) ∧ ∀ i v, (cf j)[i]? = some v → w.cell? ⟨b, off + j * k + i, none⟩ = some v :=
      ⟨fun j => if h : j < xs.length then (hc j h).choose else [], fun j hj => by simp only [hj, dif_pos]; exact (hc j hj).choose_spec⟩
    let α := {y : List Value × β // RL w y.1 y.2}
    have : Inhabited α := ⟨⟨(cf 0, xs.getD 0 d), (hcf 0 hpos).1⟩⟩
    let zs : List α := (List.range xs.length).attach.map fun j => ⟨(cf j.1, xs.getD j.1 d), (hcf j.1 (List.mem_range.1 j.2)).1⟩
    have hzl : zs.length = xs.length := by simp [zs]
    have hzj : ∀ j, j < xs.length → (zs[j]!).1 = (cf j, xs.getD j d) := fun j hj => by
      rw [getElem!_pos _ j (by rw [hzl]; exact hj)]
      simp [zs]
    have hmap : zs.map (fun x => x.1.2) = xs := by
      apply List.ext_getElem
      · simp [hzl]
      · intro j h1 h2
        have h3 : j < xs.length := h2
        simp [zs, List.getD, h3]
    have hb : b < w.heap.size := by
      obtain ⟨h1, h2⟩ := hcf 0 hpos
      have hl := hk _ _ _ h1
      have := h2 0 ((cf 0)[0]'(by omega)) (List.getElem?_eq_getElem _)
      exact World.block_lt_of_cell? w _ this
    have := AnyQ.slices_ContainsFunc L k aE zE (α := α) (fun x => x.1.1) (fun x => hk _ _ _ x.2) (fun x => p x.1.2) g lb eg b off n c zs w
      (fun W x hW => (hp W x.1.1 x.1.2 hW (hst _ _ _ _ x.2 hW)).mono fun e w' ⟨h1, h2⟩ => ⟨h1, hW.trans (h2.mono hW.size)⟩) (by omega) hbig hb
      (fun j hj i v hv => (hcf j (by omega)).2 i v (by rw [hzj j (by omega)] at hv; exact hv))
    refine this.mono fun e w' ⟨h1, h2⟩ => ⟨?_, h2⟩
    have h3 := congrArg (fun l => l.any p) hmap
    simp only [List.any_map] at h3
    have h4 : zs.any (fun x => p x.1.2) = xs.any p := h3
    rw [h1, List.take_of_length_le (by omega), h4]
end
end Go.Proofs.YtlahecdpcpejpaaDoor
