/-
How the abstract machine's values, registers, boxes and blocks stand to the model's.
-/
import Derived.Test.YtimngjghbojjlaaGreatAmCompile
import Derived.Orders
import Derived.LoopN
import Derived.Laws.Sem
import Derived.Laws.World
import Derived.Laws.Tables
import Derived.ChangeAlike
import Derived.RowKit3
namespace Am
open Go (IntKind FloatKind Value Addr Obj World Program Act Oper Operand)

/-! ## Values -/
/-- Where a block lies: in which block of the model's, from which cell on; of one that may have room behind it: its elements' cells, the whole block's cells. -/
structure BI where
  blk : Nat
  base : Nat
  loose : Option (Nat × Nat)
abbrev Ren := Nat → Option BI
def Ren.le (ρ ρ' : Ren) : Prop := ∀ b I, ρ b = some I → ρ' b = some I
def CapOk (I : BI) (o c c' : Nat) : Prop :=
  match I.loose with
  | none => c' = c
  | some (es, sz) => c' = c ∨ (c ≤ c' ∧ I.base + o + c' * es ≤ sz)

mutual
inductive VR (ρ : Ren) : V → Value → Prop
  | b (x : Bool) : VR ρ (.b x) (.bool x)
  | i (k : IntKind) (n : Int) : VR ρ (.i k n) (.int k n)
  | f (w : Nat) : VR ρ (.f (canon w)) (.float .f64 w)
  | c (x y : Nat) : VR ρ (.c (canon x) (canon y)) (.complex .f64 x y)
  | p0 : VR ρ (.p none) (.pointer none)
  | p {b o : Nat} {I : BI} : ρ b = some I → VR ρ (.p (some (b, o))) (.pointer (some ⟨I.blk, I.base + o, none⟩))
  | s0 (l c : Nat) : VR ρ (.s none l c) (.slice none l c)
  | s {b o l c c' : Nat} {I : BI} : ρ b = some I → CapOk I o c c' → VR ρ (.s (some (b, o)) l c) (.slice (some ⟨I.blk, I.base + o, none⟩) l c')
  | fn {f : Nat} {as cs : List V} {as' cs' : List Value} : VRs ρ as as' → VRs ρ cs cs' → VR ρ (.fn f as cs) (.func (.func f) as'.toArray cs'.toArray)
  | nilFn : VR ρ .nilFn .nilFunc
  | ifc {t : Nat} {v : V} {v' : Value} : VR ρ v v' → VR ρ (.ifc t v) (.iface t v')
  | nilI : VR ρ .nilI .nilIface
  | agg {cs : List V} {cs' : List Value} : VRs ρ cs cs' → VR ρ (.agg cs) (.agg cs'.toArray)
  | tup {cs : List V} {cs' : List Value} : VRs ρ cs cs' → VR ρ (.tup cs) (.tuple cs'.toArray)
inductive VRs (ρ : Ren) : List V → List Value → Prop
  | nil : VRs ρ [] []
  | cons {v : V} {v' : Value} {vs : List V} {vs' : List Value} : VR ρ v v' → VRs ρ vs vs' → VRs ρ (v :: vs) (v' :: vs')
end

mutual
theorem VR.mono {ρ ρ' : Ren} (h : ρ.le ρ') : ∀ {v : V} {c : Value}, VR ρ v c → VR ρ' v c
  | _, _, .b x => .b x
  | _, _, .i k n => .i k n
  | _, _, .f w => .f w
  | _, _, .c x y => .c x y
  | _, _, .p0 => .p0
  | _, _, .p e => .p (h _ _ e)
  | _, _, .s0 l c => .s0 l c
  | _, _, .s e k => .s (h _ _ e) k
  | _, _, .fn a c => .fn (VRs.mono h a) (VRs.mono h c)
  | _, _, .nilFn => .nilFn
  | _, _, .ifc x => .ifc (VR.mono h x)
  | _, _, .nilI => .nilI
  | _, _, .agg x => .agg (VRs.mono h x)
  | _, _, .tup x => .tup (VRs.mono h x)
theorem VRs.mono {ρ ρ' : Ren} (h : ρ.le ρ') : ∀ {v : List V} {c : List Value}, VRs ρ v c → VRs ρ' v c
  | _, _, .nil => .nil
  | _, _, .cons a b => .cons (VR.mono h a) (VRs.mono h b)
end

section
variable {ρ : Ren}
theorem VRs.length : ∀ {vs : List V} {cs : List Value}, VRs ρ vs cs → vs.length = cs.length
  | _, _, .nil => rfl
  | _, _, .cons _ h => by simp [VRs.length h]
theorem VRs.get : ∀ {vs : List V} {cs : List Value}, VRs ρ vs cs → ∀ (i : Nat) (v : V), vs[i]? = some v → ∃ c, cs[i]? = some c ∧ VR ρ v c
  | _, _, .nil, i, v, h => by simp at h
  | _, _, .cons a b, 0, v, h => by simp at h; subst h; exact ⟨_, rfl, a⟩
  | _, _, .cons a b, i + 1, v, h => by
    rw [List.getElem?_cons_succ] at h
    obtain ⟨c, hc, hv⟩ := VRs.get b i v h
    exact ⟨c, by rw [List.getElem?_cons_succ]; exact hc, hv⟩
theorem VRs.of_get : ∀ {vs : List V} {cs : List Value}, vs.length = cs.length → (∀ (i : Nat) (v : V), vs[i]? = some v → ∃ c, cs[i]? = some c ∧ VR ρ v c) → VRs ρ vs cs
  | [], [], _, _ => .nil
  | [], _ :: _, h, _ => by simp at h
  | _ :: _, [], h, _ => by simp at h
  | v :: vs, c :: cs, h, k => by
    obtain ⟨c', hc, hv⟩ := k 0 v rfl
    simp at hc; subst hc
    exact .cons hv (VRs.of_get (by simpa using h) fun i v hi => by
      obtain ⟨c, hc, hv⟩ := k (i + 1) v (by rw [List.getElem?_cons_succ]; exact hi)
      rw [List.getElem?_cons_succ] at hc
      exact ⟨c, hc, hv⟩)
theorem VRs.append : ∀ {vs us : List V} {cs ds : List Value}, VRs ρ vs cs → VRs ρ us ds → VRs ρ (vs ++ us) (cs ++ ds)
  | _, _, _, _, .nil, h => h
  | _, _, _, _, .cons a b, h => .cons a (VRs.append b h)
theorem VRs.take : ∀ (n : Nat) {vs : List V} {cs : List Value}, VRs ρ vs cs → VRs ρ (vs.take n) (cs.take n)
  | 0, _, _, _ => .nil
  | _ + 1, _, _, .nil => .nil
  | n + 1, _, _, .cons a b => .cons a (VRs.take n b)
theorem VRs.drop : ∀ (n : Nat) {vs : List V} {cs : List Value}, VRs ρ vs cs → VRs ρ (vs.drop n) (cs.drop n)
  | 0, _, _, h => h
  | _ + 1, _, _, .nil => .nil
  | n + 1, _, _, .cons _ b => VRs.drop n b
theorem VRs.replicate {v : V} {c : Value} (h : VR ρ v c) : ∀ n, VRs ρ (List.replicate n v) (List.replicate n c)
  | 0 => .nil
  | n + 1 => .cons h (VRs.replicate h n)

/-- A value and its cells. -/
theorem VR.cells {v : V} {c : Value} (h : VR ρ v c) : VRs ρ v.cells c.cells.toList := by
  cases h <;> first
    | (simp only [V.cells, Value.cells]; exact .cons (by first | exact .b _ | exact .i _ _ | exact .f _ | exact .c _ _ | exact .p0 | exact .s0 _ _ | exact .nilFn | exact .nilI) .nil)
    | skip
  case p e => exact .cons (.p e) .nil
  case s e k => exact .cons (.s e k) .nil
  case fn a b => exact .cons (.fn a b) .nil
  case ifc x => exact .cons (.ifc x) .nil
  case agg x => simpa [V.cells, Value.cells] using x
  case tup x => exact .cons (.tup x) .nil
theorem VR.scalar {v : V} {c : Value} (h : VR ρ v c) (hs : v.scalar = true) : c.oneCell' = true := by
  cases h <;> first | rfl | simp [V.scalar] at hs
end

/-! ## Registers -/
inductive SR (ρ : Ren) (π : Nat → Option Nat) : S → Value → Prop
  | v {x : V} {c : Value} : VR ρ x c → SR ρ π (.v x) c
  | lp {g k off : Nat} : π g = some k → SR ρ π (.lp g off) (.pointer (some ⟨k, off, none⟩))
  | u : SR ρ π .u Go.undef
theorem SR.mono {ρ ρ' : Ren} {π π' : Nat → Option Nat} (h : ρ.le ρ') (hp : ∀ g k, π g = some k → π' g = some k) {s : S} {c : Value} (hs : SR ρ π s c) : SR ρ' π' s c := by
  cases hs with
  | v x => exact .v (x.mono h)
  | lp e => exact .lp (hp _ _ e)
  | u => exact .u
theorem SR.val {ρ : Ren} {π : Nat → Option Nat} {x : V} {c : Value} (h : SR ρ π (.v x) c) : VR ρ x c := by
  cases h; assumption

/-! ## Outside -/
/-- What lies outside of memory stays; so does what may not be written. -/
def Outside (w w' : World) : Prop := w'.os = w.os ∧ w'.output = w.output ∧ ∀ a, w'.frozen? a = w.frozen? a
theorem Outside.refl (w : World) : Outside w w := ⟨rfl, rfl, fun _ => rfl⟩
theorem Outside.trans {w w1 w2 : World} (h : Outside w w1) (h' : Outside w1 w2) : Outside w w2 := ⟨h'.1.trans h.1, h'.2.1.trans h.2.1, fun a => (h'.2.2 a).trans (h.2.2 a)⟩
theorem Outside.alike {w w' : World} (h : w'.Alike w) : Outside w w' := ⟨h.2.1, h.2.2, fun a => by simp only [World.frozen?, h.1]⟩
theorem Outside.alloc (w : World) (c : Array Value) (t : Go.TypeId) : Outside w (w.alloc (.cells c t)) := ⟨rfl, rfl, fun a => Go.RowKit.frozen?_alloc_cells w c t a⟩
theorem Outside.setRow (w : World) (k : Nat) (c : Array Value) : Outside w (w.setRow k c) := by
  refine ⟨rfl, rfl, fun a => ?_⟩
  unfold World.frozen? World.setRow
  simp only [Array.getElem?_modify]
  by_cases h : k = a.block
  · rw [if_pos h]
    cases w.heap[a.block]? with
    | none => rfl
    | some o => cases o <;> rfl
  · rw [if_neg h]

/-! ## Blocks -/
/-- A block's known cells. -/
def OR (ρ : Ren) (I : BI) (cs : List V) (es : Nat) (fl : Fl) (w : World) : Prop :=
  ∃ cc el fz, w.heap[I.blk]? = some (.cells cc el fz) ∧ (fl ≠ .ro → fz = (0, 0)) ∧ I.base + cs.length ≤ cc.size ∧
    (∀ (i : Nat) (v : V), cs[i]? = some v → ∃ c, cc[I.base + i]? = some c ∧ VR ρ v c) ∧
    I.loose = (match fl with | .loose => some (es, cc.size) | _ => none)
theorem OR.mono {ρ ρ' : Ren} (h : ρ.le ρ') {I : BI} {cs : List V} {es : Nat} {fl : Fl} {w w' : World} (ho : OR ρ I cs es fl w) (hw : w'.heap[I.blk]? = w.heap[I.blk]?) : OR ρ' I cs es fl w' := by
  obtain ⟨cc, el, fz, h1, h2, h3, h4, h5⟩ := ho
  exact ⟨cc, el, fz, by rw [hw]; exact h1, h2, h3, fun i v hi => by obtain ⟨c, hc, hv⟩ := h4 i v hi; exact ⟨c, hc, hv.mono h⟩, h5⟩
theorem OR.lt {ρ : Ren} {I : BI} {cs : List V} {es : Nat} {fl : Fl} {w : World} (ho : OR ρ I cs es fl w) : I.blk < w.heap.size := by
  obtain ⟨cc, el, fz, h1, _⟩ := ho
  exact (Array.getElem?_eq_some_iff.1 h1).1

/-- What is known of memory. -/
structure MemR (ρ : Ren) (A : Nat → Option Am.Obj) (w : World) : Prop where
  get : ∀ b I cs es fl, ρ b = some I → A b = some (.cells cs es fl) → OR ρ I cs es fl w
  inj : ∀ b b' I I' cs es fl o, b ≠ b' → ρ b = some I → ρ b' = some I' → A b = some (.cells cs es fl) → A b' = some o → fl ≠ .ro → I.blk ≠ I'.blk
  lt : ∀ b I, ρ b = some I → I.blk < w.heap.size

/-- The frame's own boxes. -/
structure BoxR (ρ : Ren) (π : Nat → Option Nat) (B : Nat → Option (List V)) (w : World) : Prop where
  get : ∀ g k cs, π g = some k → B g = some cs → ∃ cc el, w.heap[k]? = some (.cells cc el (0, 0)) ∧ VRs ρ cs cc.toList
  lt : ∀ g k, π g = some k → k < w.heap.size
  inj : ∀ g g' k, π g = some k → π g' = some k → g = g'
  sep : ∀ g k b I, π g = some k → ρ b = some I → I.blk ≠ k

/-- What becomes of a heap of the abstract machine's: of what was there, ω may be written. -/
structure HLe (ω : Nat → Prop) (H H' : Heap) : Prop where
  nx : H.nx ≤ H'.nx
  none_ : (∀ b, H.nx ≤ b → H.bl.get b = none) → ∀ b, H'.nx ≤ b → H'.bl.get b = none
  kind : ∀ b cs es fl, b < H.nx → H'.bl.get b = some (.cells cs es fl) → ∃ cs0, H.bl.get b = some (.cells cs0 es fl)
  same : ∀ b, b < H.nx → ¬ ω b → H'.bl.get b = H.bl.get b

/-- What an operation may do to the model's heap: it touches blocks τ. -/
structure HStep (ρ : Ren) (τ : Nat → Prop) (H : Heap) (w : World) (H' : Heap) (w' : World) (ρ' : Ren) : Prop where
  mono : ρ.le ρ'
  dom : ∀ b I, ρ' b = some I → ρ b = some I ∨ (H.nx ≤ b ∧ b < H'.nx)
  post : ∀ b I cs es fl, (τ b ∨ H.nx ≤ b) → ρ' b = some I → H'.bl.get b = some (.cells cs es fl) → OR ρ' I cs es fl w'
  inj : ∀ b b' I I' cs es fl o, (τ b ∨ H.nx ≤ b) → (τ b' ∨ H.nx ≤ b') → b ≠ b' → ρ' b = some I → ρ' b' = some I' → H'.bl.get b = some (.cells cs es fl) → H'.bl.get b' = some o → fl ≠ .ro → I.blk ≠ I'.blk
  size : w.heap.size ≤ w'.heap.size
  keep : ∀ k, k < w.heap.size → (∀ b I cs es fl, τ b → ρ b = some I → H.bl.get b = some (.cells cs es fl) → fl ≠ .ro → I.blk ≠ k) → w'.heap[k]? = w.heap[k]?
  fresh : ∀ b I, ρ' b = some I → ρ b = none → w.heap.size ≤ I.blk ∨ ∃ b0 I0 cs es fl, τ b0 ∧ ρ b0 = some I0 ∧ H.bl.get b0 = some (.cells cs es fl) ∧ fl ≠ .ro ∧ I0.blk = I.blk
  lt : ∀ b I, ρ' b = some I → ρ b = none → I.blk < w'.heap.size
  out : Outside w w'

/-- A step over the whole of what is known. -/
theorem MemR.step {ρ ρ' : Ren} {τ ω : Nat → Prop} {H H' : Heap} {w w' : World} {A A' : Nat → Option Am.Obj}
    (hM : MemR ρ A w) (hS : HStep ρ τ H w H' w' ρ') (hL : HLe ω H H') (hτ : ∀ b, τ b → b < H.nx) (hA : ∀ b I, ρ b = some I → τ b → A b = H.bl.get b)
    (hf : ∀ b, H.nx ≤ b → b < H'.nx → ρ b = none)
    (h1 : ∀ b I, ρ b = some I → τ b → A' b = H'.bl.get b) (h2 : ∀ b, H.nx ≤ b → b < H'.nx → A' b = H'.bl.get b)
    (h3 : ∀ b I, ρ b = some I → ¬ τ b → ¬ (H.nx ≤ b ∧ b < H'.nx) → A' b = A b) : MemR ρ' A' w' := by
  -- an untouched block was there before, and is as it was
  have kept : ∀ b I cs es fl, ρ b = some I → A b = some (.cells cs es fl) → ¬ τ b → w'.heap[I.blk]? = w.heap[I.blk]? := fun b I cs es fl hb ha hn =>
    hS.keep I.blk (hM.get b I cs es fl hb ha).lt fun b' I' cs' es' fl' ht hb' hg hfl => by
      have hne : b' ≠ b := fun e => hn (e ▸ ht)
      exact hM.inj b' b I' I cs' es' fl' _ hne hb' hb (by rw [hA b' I' hb' ht]; exact hg) ha hfl
  have cls : ∀ b, (τ b ∨ H.nx ≤ b ∧ b < H'.nx) ∨ (¬ τ b ∧ ¬ (H.nx ≤ b ∧ b < H'.nx)) := fun b => by
    by_cases ht : τ b
    · exact .inl (.inl ht)
    · by_cases hn : H.nx ≤ b ∧ b < H'.nx
      · exact .inl (.inr hn)
      · exact .inr ⟨ht, hn⟩
  have was : ∀ b I, ρ' b = some I → ¬ (H.nx ≤ b ∧ b < H'.nx) → ρ b = some I := fun b I hr hn => (hS.dom b I hr).resolve_right hn
  have wasT : ∀ b I, ρ' b = some I → τ b → ρ b = some I := fun b I hr ht => was b I hr (by have := hτ b ht; omega)
  have now : ∀ b I, ρ' b = some I → (τ b ∨ H.nx ≤ b ∧ b < H'.nx) → A' b = H'.bl.get b := fun b I hr h => h.elim (fun ht => h1 b I (wasT b I hr ht) ht) (fun h => h2 b h.1 h.2)
  have tch : ∀ b, (τ b ∨ H.nx ≤ b ∧ b < H'.nx) → (τ b ∨ H.nx ≤ b) := fun b h => h.imp id And.left
  -- a touched or new block, and one that is neither
  have far : ∀ b b' I I' cs es fl cs' es' fl', (τ b ∨ H.nx ≤ b ∧ b < H'.nx) → ρ' b = some I → H'.bl.get b = some (.cells cs es fl) →
      ¬ τ b' → ρ b' = some I' → A b' = some (.cells cs' es' fl') → (fl ≠ .ro ∨ fl' ≠ .ro) → I.blk ≠ I'.blk := by
    intro b b' I I' cs es fl cs' es' fl' hb hr hg hn' hr' ha' hfl
    have hlt := (hM.get b' I' cs' es' fl' hr' ha').lt
    by_cases hnew : H.nx ≤ b ∧ b < H'.nx
    · rcases hS.fresh b I hr (hf b hnew.1 hnew.2) with h | ⟨b0, I0, cs0, es0, fl0, ht0, hr0, hg0, hf0, he⟩
      · omega
      · have hne : b0 ≠ b' := fun e => hn' (e ▸ ht0)
        have := hM.inj b0 b' I0 I' cs0 es0 fl0 _ hne hr0 hr' (by rw [hA b0 I0 hr0 ht0]; exact hg0) ha' hf0
        omega
    · have ht : τ b := hb.resolve_right hnew
      have hrb := was b I hr hnew
      obtain ⟨cs0, hg0⟩ := hL.kind b cs es fl (hτ b ht) hg
      have hne : b ≠ b' := fun e => hn' (e ▸ ht)
      rcases hfl with hfl | hfl
      · exact hM.inj b b' I I' cs0 es fl _ hne hrb hr' (by rw [hA b I hrb ht]; exact hg0) ha' hfl
      · exact fun e => (hM.inj b' b I' I cs' es' fl' _ (Ne.symm hne) hr' hrb ha' (by rw [hA b I hrb ht]; exact hg0) hfl) e.symm
  constructor
  · intro b I cs es fl hr ha
    rcases cls b with h | ⟨hn, hn2⟩
    · exact hS.post b I cs es fl (tch b h) hr (by rw [← now b I hr h]; exact ha)
    · have hrb := was b I hr hn2
      have hab : A b = some (.cells cs es fl) := by rw [← h3 b I hrb hn hn2]; exact ha
      exact (hM.get b I cs es fl hrb hab).mono hS.mono (kept b I cs es fl hrb hab hn)
  · intro b b' I I' cs es fl o hne hr hr' ha ha' hfl
    obtain ⟨cs', es', fl'⟩ := o
    rcases cls b with h | ⟨hn, hn2⟩
    · have hg : H'.bl.get b = some (.cells cs es fl) := by rw [← now b I hr h]; exact ha
      rcases cls b' with h' | ⟨hn', hn2'⟩
      · exact hS.inj b b' I I' cs es fl _ (tch b h) (tch b' h') hne hr hr' hg (by rw [← now b' I' hr' h']; exact ha') hfl
      · have hrb' := was b' I' hr' hn2'
        exact far b b' I I' cs es fl cs' es' fl' h hr hg hn' hrb' (by rw [← h3 b' I' hrb' hn' hn2']; exact ha') (.inl hfl)
    · have hrb := was b I hr hn2
      have hab : A b = some (.cells cs es fl) := by rw [← h3 b I hrb hn hn2]; exact ha
      rcases cls b' with h' | ⟨hn', hn2'⟩
      · exact fun e => far b' b I' I cs' es' fl' cs es fl h' hr' (by rw [← now b' I' hr' h']; exact ha') hn hrb hab (.inr hfl) e.symm
      · have hrb' := was b' I' hr' hn2'
        exact hM.inj b b' I I' cs es fl _ hne hrb hrb' hab (by rw [← h3 b' I' hrb' hn' hn2']; exact ha') hfl
  · intro b I hr
    cases hb : ρ b with
    | none => exact hS.lt b I hr hb
    | some J =>
      have := hS.mono b J hb
      rw [hr] at this
      have e : I = J := Option.some.inj this
      subst e
      exact Nat.lt_of_lt_of_le (hM.lt b I hb) hS.size

/-- Boxes stay. -/
theorem BoxR.step {ρ ρ' : Ren} {π : Nat → Option Nat} {τ : Nat → Prop} {H H' : Heap} {w w' : World} {B : Nat → Option (List V)}
    (hB : BoxR ρ π B w) (hS : HStep ρ τ H w H' w' ρ') : BoxR ρ' π B w' := by
  have kept : ∀ g k, π g = some k → w'.heap[k]? = w.heap[k]? := fun g k hg =>
    hS.keep k (hB.lt g k hg) fun b I _ _ _ _ hb _ _ => hB.sep g k b I hg hb
  constructor
  · intro g k cs hg hb
    obtain ⟨cc, el, h1, h2⟩ := hB.get g k cs hg hb
    exact ⟨cc, el, by rw [kept g k hg]; exact h1, h2.mono hS.mono⟩
  · intro g k hg; exact Nat.lt_of_lt_of_le (hB.lt g k hg) hS.size
  · exact hB.inj
  · intro g k b I hg hb
    cases hr : ρ b with
    | some J =>
      have := hS.mono b J hr
      rw [hb] at this
      have e : I = J := Option.some.inj this
      subst e
      exact hB.sep g k b I hg hr
    | none =>
      have hlt := hB.lt g k hg
      rcases hS.fresh b I hb hr with h | ⟨b0, I0, _, _, _, _, hr0, _, _, he⟩
      · omega
      · have := hB.sep g k b0 I0 hg hr0
        omega

/-- What an operation on one of the frame's boxes may do. -/
structure BStep (ρ : Ren) (π : Nat → Option Nat) (g0 : Nat) (bx : T (List V)) (nb : Nat) (w : World) (bx' : T (List V)) (nb' : Nat) (w' : World) (π' : Nat → Option Nat) : Prop where
  mono : ∀ g k, π g = some k → π' g = some k
  dom : ∀ g k, π' g = some k → π g = some k ∨ (g = g0 ∧ nb ≤ g ∧ g < nb' ∧ k = w.heap.size)
  nb : nb ≤ nb'
  post : ∀ k cs, π' g0 = some k → bx'.get g0 = some cs → ∃ cc el, w'.heap[k]? = some (.cells cc el (0, 0)) ∧ VRs ρ cs cc.toList
  size : w.heap.size ≤ w'.heap.size
  lt : ∀ g k, π' g = some k → π g = none → k < w'.heap.size
  keep : ∀ k, k < w.heap.size → π g0 ≠ some k → w'.heap[k]? = w.heap[k]?
  same : ∀ g, g ≠ g0 → bx'.get g = bx.get g
  out : Outside w w'
theorem MemR.bstep {ρ : Ren} {π π' : Nat → Option Nat} {g0 nb nb' : Nat} {bx bx' : T (List V)} {w w' : World} {A : Nat → Option Am.Obj} {B : Nat → Option (List V)}
    (hM : MemR ρ A w) (hB : BoxR ρ π B w) (hS : BStep ρ π g0 bx nb w bx' nb' w' π') : MemR ρ A w' := by
  constructor
  · intro b I cs es fl hr ha
    have h := hM.get b I cs es fl hr ha
    exact h.mono (fun _ _ h => h) (hS.keep I.blk h.lt fun e => hB.sep g0 I.blk b I e hr rfl)
  · exact hM.inj
  · intro b I hr; exact Nat.lt_of_lt_of_le (hM.lt b I hr) hS.size
theorem BoxR.bstep {ρ : Ren} {π π' : Nat → Option Nat} {g0 nb nb' : Nat} {bx bx' : T (List V)} {w w' : World} {B B' : Nat → Option (List V)}
    (hM : ∀ b I, ρ b = some I → I.blk < w.heap.size) (hB : BoxR ρ π B w) (hS : BStep ρ π g0 bx nb w bx' nb' w' π')
    (h1 : B' g0 = bx'.get g0) (h2 : ∀ g k, π g = some k → g ≠ g0 → B' g = B g) : BoxR ρ π' B' w' := by
  constructor
  · intro g k cs hg hb
    by_cases h : g = g0
    · subst h; exact hS.post k cs hg (by rw [← h1]; exact hb)
    · have hg' : π g = some k := (hS.dom g k hg).resolve_right fun e => h e.1
      obtain ⟨cc, el, e1, e2⟩ := hB.get g k cs hg' (by rw [← h2 g k hg' h]; exact hb)
      exact ⟨cc, el, by rw [hS.keep k (hB.lt g k hg') fun e => h (hB.inj g g0 k hg' e)]; exact e1, e2⟩
  · intro g k hg
    cases hp : π g with
    | none => exact hS.lt g k hg hp
    | some j =>
      have := hS.mono g j hp
      rw [hg] at this
      have e : k = j := Option.some.inj this
      subst e
      exact Nat.lt_of_lt_of_le (hB.lt g k hp) hS.size
  · intro g g' k hg hg'
    rcases hS.dom g k hg with h | ⟨h, _, _, hk⟩
    · rcases hS.dom g' k hg' with h' | ⟨h', _, _, hk'⟩
      · exact hB.inj g g' k h h'
      · have := hB.lt g k h; omega
    · rcases hS.dom g' k hg' with h' | ⟨h', _, _, hk'⟩
      · have := hB.lt g' k h'; omega
      · rw [h, h']
  · intro g k b I hg hb
    rcases hS.dom g k hg with h | ⟨h, _, _, hk⟩
    · exact hB.sep g k b I h hb
    · have := hM b I hb; omega
end Am
