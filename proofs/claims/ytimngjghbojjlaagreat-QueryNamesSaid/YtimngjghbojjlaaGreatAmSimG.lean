/-
A call without arguments, out of nothing: whatever the heap and the tape.
-/
import Derived.Test.YtimngjghbojjlaaGreatAmSimF
import Derived.RowKit3
namespace Am
open Go (World Program Calls Value)
theorem orc_closed {P : Program} (hm : P.follows .mixedOrders = true) (mt : List Go.TypeId) (mk : Masks) (n f : Nat) {v : V} {H' : Heap} (h : callN (env P mt mk) n f [] ⟨.e, 0, none⟩ = some (v, H')) (w : World) :
    Calls P f #[] w fun e w' => ∃ c ρ', e = .returned c ∧ VR ρ' v c ∧ Go.RowKit.Grown w w' := by
  have hMem : MemR (fun _ => none) (T.e : T Am.Obj).get w := ⟨fun b I cs es fl hr => (by cases hr), fun b b' I I' cs es fl o _ hr => (by cases hr), fun b I hr => (by cases hr)⟩
  have := (orc_ok hm mt mk n).run f [] ⟨.e, 0, none⟩ v H' h (fun _ => none) w [] .nil hMem (fun b _ => T.get_e b) (fun _ _ _ => rfl)
  refine Calls.mono this ?_
  rintro e w' ⟨c, ρ', rfl, h1, h2⟩
  refine ⟨c, ρ', rfl, h1, ?_⟩
  refine ⟨⟨h2.out.1, h2.out.2.1, fun k hk => ?_⟩, h2.out.2.2, h2.size⟩
  rw [h2.keep k hk fun b I cs es fl _ hr => by cases hr]
  cases w.heap[k]? with
  | none => rfl
  | some o => cases o <;> first | exact ⟨rfl, rfl, rfl, fun _ _ => rfl⟩ | exact .inr ⟨rfl, rfl⟩ | rfl
def isT (o : Option (V × Heap)) : Bool := match o with | some (.b x, _) => x | _ => false
theorem isT_some {o : Option (V × Heap)} (h : isT o = true) : ∃ H', o = some (.b true, H') := by
  unfold isT at h
  split at h
  · subst h; exact ⟨_, rfl⟩
  · cases h
end Am
