/- Calls, level by level. No condition. -/
import Derived.Test.YtkcelehlilppcaaGreatD23
set_option linter.unusedVariables false
set_option linter.unusedSimpArgs false
namespace Go.Proofs.YtkcelehlilppcaaGreat
open Go.RowKit Go.MapKept

/-- What calls come to, so many levels deep, by so many steps each; 'xd' runs a region that draws its order. -/
def xlev (P : Program) (xd : Co → Xd) (B : Nat) : Nat → Co
  | 0, _, _, _ => none
  | k + 1, .inl f, args, M => xfun P (xlev P xd B k) (xd (xlev P xd B k)) (xrange (xlev P xd B k)) (xdfn P (xlev P xd B k) (xd (xlev P xd B k)) (xrange (xlev P xd B k)) B) B f args M
  | k + 1, .inr id, args, M => xyield P (xlev P xd B k) (xd (xlev P xd B k)) (xrange (xlev P xd B k)) B id args M

theorem xlev_sound {P : Program} {xd : Co → Xd} (hxd : ∀ co, CoOk P co → XdOk P (xd co)) (B : Nat) : ∀ k, CoOk P (xlev P xd B k)
  | 0 => ⟨fun f args M r M' h => by simp [xlev] at h, fun id args M r M' h => by simp [xlev] at h⟩
  | k + 1 => by
    have ih := xlev_sound hxd B k
    refine ⟨fun f args M r M' h => ?_, fun id args M r M' h => ?_⟩
    · exact xfun_sound ih (hxd _ ih) (xrange_sound ih) (xdfn_sound ih (hxd _ ih) (xrange_sound ih) B) (by simpa [xlev] using h)
    · exact xyield_sound ih (hxd _ ih) (xrange_sound ih) B id args M r M' (by simpa [xlev] using h)

/-- A closed call: no memory, no arguments: what it comes to from any world. -/
theorem closed {P : Program} {co : Co} (hco : CoOk P co) {f : FuncId} {M' : List DE} {d : DV} (h : co (.inl f) [] [] = some (.ret d, M')) (w : World) :
    Calls P f #[] w fun e w' => ∃ v E', e = .returned v ∧ VR E' w' d v ∧ XT ⟨w, ⟨fun _ => False, fun _ => False, fun _ => 0, fun _ => 0, fun _ => 0⟩, [], []⟩ E' M' w' := by
  obtain ⟨_, hc⟩ := hco.fn _ _ _ _ _ h
  have hH : HR ⟨fun _ => False, fun _ => False, fun _ => 0, fun _ => 0, fun _ => 0⟩ [] w := ⟨fun i o h => by simp at h, fun i o h => by simp at h, fun i j o o' h => by simp at h, fun i h => h.elim, fun i o h => by simp at h, fun b h => h.elim⟩
  refine (hc _ w #[] hH ⟨rfl, fun i x v h => by simp at h⟩).mono ?_
  rintro e w' ⟨E', g1, ⟨v, rfl, g2⟩, g3⟩
  exact ⟨v, E', rfl, g2, g3⟩

end Go.Proofs.YtkcelehlilppcaaGreat
