/-
Operations that look at memory: what they do to blocks.
-/
import Derived.Test.YtimngjghbojjlaaGreatAmSimQ
import Derived.Laws.CopyRow
import Derived.Laws.Append
namespace Am
open Go (IntKind FloatKind BinOp UnOp Value Addr World Program Act Oper Op Operand TypeDesc TypeInfo TypeId Sem Result Next execOp Func Builtin)

/-! ## The abstract machine's heap -/
theorem Heap.get_new (H : Heap) (o : Am.Obj) (b : Nat) : (H.new o).bl.get b = if b = H.nx then some o else H.bl.get b := T.get_set _ _ _ _
theorem Heap.get_write (H : Heap) (k : Nat) (o : Option Am.Obj) (b : Nat) : (H.write k o).bl.get b = if b = k then o else H.bl.get b := T.get_put _ _ _ _
theorem HLe.refl (ω : Nat → Prop) (H : Heap) : HLe ω H H := ⟨Nat.le_refl _, fun h => h, fun _ cs _ _ _ h => ⟨cs, h⟩, fun _ _ _ => rfl⟩
theorem HLe.new (ω : Nat → Prop) (H : Heap) (o : Am.Obj) : HLe ω H (H.new o) := by
  refine ⟨Nat.le_succ _, fun h b hb => ?_, fun b cs es fl hb h => ?_, fun b hb _ => ?_⟩
  · have h1 : H.nx + 1 ≤ b := hb
    rw [Heap.get_new, if_neg (by omega)]; exact h b (by omega)
  · rw [Heap.get_new, if_neg (by omega)] at h; exact ⟨cs, h⟩
  · rw [Heap.get_new, if_neg (by omega)]
theorem HLe.write {ω : Nat → Prop} {H : Heap} {k : Nat} {cs0 cs1 : List V} {es : Nat} {fl : Fl} (hk : H.bl.get k = some (.cells cs0 es fl)) (hlt : k < H.nx) (hω : ω k) : HLe ω H (H.write k (some (.cells cs1 es fl))) := by
  refine ⟨Nat.le_refl _, fun h b hb => ?_, fun b cs es' fl' hb h => ?_, fun b hb hn => ?_⟩
  · have h1 : H.nx ≤ b := hb
    rw [Heap.get_write, if_neg (by omega)]; exact h b h1
  · rw [Heap.get_write] at h
    by_cases e : b = k
    · subst e; rw [if_pos rfl] at h; cases h; exact ⟨cs0, hk⟩
    · rw [if_neg e] at h; exact ⟨cs, h⟩
  · rw [Heap.get_write, if_neg (fun e => hn (by rw [e]; exact hω))]
theorem HLe.drop {ω : Nat → Prop} {H : Heap} {k : Nat} (hlt : k < H.nx) (hω : ω k) : HLe ω H (H.write k none) := by
  refine ⟨Nat.le_refl _, fun h b hb => ?_, fun b cs es' fl' hb h => ?_, fun b hb hn => ?_⟩
  · have h1 : H.nx ≤ b := hb
    rw [Heap.get_write, if_neg (by omega)]; exact h b h1
  · rw [Heap.get_write] at h
    by_cases e : b = k
    · subst e; rw [if_pos rfl] at h; cases h
    · rw [if_neg e] at h; exact ⟨cs, h⟩
  · rw [Heap.get_write, if_neg (fun e => hn (by rw [e]; exact hω))]
theorem HLe.trans {ω ω' : Nat → Prop} {H H1 H2 : Heap} (h1 : HLe ω H H1) (h2 : HLe ω' H1 H2) (h0 : ∀ b, b < H.nx → ω' b → ω b) : HLe ω H H2 := by
  refine ⟨Nat.le_trans h1.nx h2.nx, fun h => h2.none_ (h1.none_ h), fun b cs es fl hb h => ?_, fun b hb hn => ?_⟩
  · obtain ⟨cs1, k⟩ := h2.kind b cs es fl (Nat.lt_of_lt_of_le hb h1.nx) h
    exact h1.kind b cs1 es fl hb k
  · rw [h2.same b (Nat.lt_of_lt_of_le hb h1.nx) (fun e => hn (h0 b hb e)), h1.same b hb hn]
theorem HLe.weaken {ω ω' : Nat → Prop} {H H1 : Heap} (h1 : HLe ω H H1) (h0 : ∀ b, b < H.nx → ω b → ω' b) : HLe ω' H H1 :=
  ⟨h1.nx, h1.none_, h1.kind, fun b hb hn => h1.same b hb fun e => hn (h0 b hb e)⟩

def Ren.set (ρ : Ren) (b : Nat) (I : BI) : Ren := fun x => if x = b then some I else ρ x
theorem Ren.set_same (ρ : Ren) (b : Nat) (I : BI) : ρ.set b I b = some I := if_pos rfl
theorem Ren.set_other (ρ : Ren) {b x : Nat} (I : BI) (h : x ≠ b) : ρ.set b I x = ρ x := if_neg h
theorem Ren.le_set {ρ : Ren} {b : Nat} (I : BI) (h : ρ b = none) : ρ.le (ρ.set b I) := fun x J hx => by
  rw [Ren.set_other ρ I (fun e => by rw [e, h] at hx; cases hx)]; exact hx
theorem Ren.set_inv {ρ : Ren} {b x : Nat} {I J : BI} (h : ρ.set b I x = some J) : (x = b ∧ J = I) ∨ (x ≠ b ∧ ρ x = some J) := by
  by_cases e : x = b
  · subst e; rw [Ren.set_same] at h; cases h; exact .inl ⟨rfl, rfl⟩
  · rw [Ren.set_other ρ I e] at h; exact .inr ⟨e, h⟩

section
variable {ρ : Ren} {τ : Nat → Prop} {H : Heap} {w : World} {A : Nat → Option Am.Obj}
/-- What only looks. -/
theorem HStep.read (hM : MemR ρ A w) (hA : ∀ b I, ρ b = some I → τ b → A b = H.bl.get b) (hn : ∀ b, H.nx ≤ b → H.bl.get b = none) {w' : World} (hw : w'.Alike w) : HStep ρ τ H w H w' ρ := by
  have key : ∀ b o, (τ b ∨ H.nx ≤ b) → H.bl.get b = some o → τ b := fun b o h hg => h.resolve_right fun h => by rw [hn b h] at hg; cases hg
  refine ⟨fun _ _ h => h, fun b I h => .inl h, ?_, ?_, (by rw [hw.1]; exact Nat.le_refl _), fun k _ _ => (by rw [hw.1]), fun b I h h' => (by rw [h'] at h; cases h), fun b I h h' => (by rw [h'] at h; cases h), Outside.alike hw⟩
  · intro b I cs es fl h hr hg
    have ht := key b _ h hg
    exact (hM.get b I cs es fl hr (by rw [hA b I hr ht]; exact hg)).mono (fun _ _ h => h) (by rw [hw.1])
  · intro b b' I I' cs es fl o h h' hne hr hr' hg hg' hfl
    have ht := key b _ h hg
    have ht' := key b' _ h' hg'
    exact hM.inj b b' I I' cs es fl o hne hr hr' (by rw [hA b I hr ht]; exact hg) (by rw [hA b' I' hr' ht']; exact hg') hfl
theorem heap_alloc_old {o : Go.Obj} {k : Nat} (h : k < w.heap.size) : (w.alloc o).heap[k]? = w.heap[k]? := by
  show (w.heap.push o)[k]? = _
  rw [Array.getElem?_push_lt h, Array.getElem?_eq_getElem h]
theorem heap_alloc_new {o : Go.Obj} : (w.alloc o).heap[w.heap.size]? = some o := by
  show (w.heap.push o)[w.heap.size]? = _
  simp
/-- A new block of the model's own. -/
theorem HStep.new (hM : MemR ρ A w) (hA : ∀ b I, ρ b = some I → τ b → A b = H.bl.get b) (hn : ∀ b, H.nx ≤ b → H.bl.get b = none) (hf : ρ H.nx = none)
    {cs : List V} {cc : Array Value} {es : Nat} {fl : Fl} {el : TypeId} {lo : Option (Nat × Nat)} (hcs : ∀ (i : Nat) (v : V), cs[i]? = some v → ∃ c, cc[i]? = some c ∧ VR ρ v c) (hlen : cs.length ≤ cc.size)
    (hlo : lo = (match fl with | .loose => some (es, cc.size) | _ => none)) {w1 : World} (hw : w1.Alike w) :
    HStep ρ τ H w (H.new (.cells cs es fl)) (w1.alloc (.cells cc el)) (ρ.set H.nx ⟨w.heap.size, 0, lo⟩) := by
  have hle := Ren.le_set (ρ := ρ) (b := H.nx) ⟨w.heap.size, 0, lo⟩ hf
  have hsz : w1.heap.size = w.heap.size := by rw [hw.1]
  have old : ∀ k, k < w.heap.size → (w1.alloc (.cells cc el)).heap[k]? = w.heap[k]? := fun k hk => by rw [heap_alloc_old (by omega), hw.1]
  have new : (w1.alloc (.cells cc el)).heap[w.heap.size]? = some (.cells cc el) := by rw [← hsz]; exact heap_alloc_new
  have hor : OR (ρ.set H.nx ⟨w.heap.size, 0, lo⟩) ⟨w.heap.size, 0, lo⟩ cs es fl (w1.alloc (.cells cc el)) := by
    refine ⟨cc, el, (0, 0), new, fun _ => rfl, by simpa using hlen, fun i v hi => ?_, hlo⟩
    obtain ⟨c, h1, h2⟩ := hcs i v hi
    exact ⟨c, by simpa using h1, h2.mono hle⟩
  have tch : ∀ b o, (τ b ∨ H.nx ≤ b) → (H.new (.cells cs es fl)).bl.get b = some o → b ≠ H.nx → τ b ∧ H.bl.get b = some o := fun b o h hg hne => by
    rw [Heap.get_new, if_neg hne] at hg
    exact ⟨h.resolve_right fun h => (by rw [hn b h] at hg; cases hg), hg⟩
  refine ⟨hle, ?_, ?_, ?_, ?_, ?_, ?_, ?_, (Outside.alike hw).trans (Outside.alloc _ _ _)⟩
  · intro b I h
    rcases Ren.set_inv h with ⟨rfl, _⟩ | ⟨_, h⟩
    · exact .inr ⟨Nat.le_refl _, Nat.lt_succ_self _⟩
    · exact .inl h
  · intro b I cs' es' fl' h hr hg
    rcases Ren.set_inv hr with ⟨rfl, rfl⟩ | ⟨hne, hr⟩
    · rw [Heap.get_new, if_pos rfl] at hg; cases hg; exact hor
    · obtain ⟨ht, hg⟩ := tch b _ h hg hne
      have ho := hM.get b I cs' es' fl' hr (by rw [hA b I hr ht]; exact hg)
      exact ho.mono hle (old _ ho.lt)
  · intro b b' I I' cs' es' fl' o h h' hne hr hr' hg hg' hfl
    rcases Ren.set_inv hr with ⟨rfl, rfl⟩ | ⟨h1, hr⟩
    · rcases Ren.set_inv hr' with ⟨rfl, rfl⟩ | ⟨h2, hr'⟩
      · exact absurd rfl hne
      · have := hM.lt b' I' hr'; simp only; omega
    · obtain ⟨ht, hg⟩ := tch b _ h hg h1
      rcases Ren.set_inv hr' with ⟨rfl, rfl⟩ | ⟨h2, hr'⟩
      · have := hM.lt b I hr; simp only; omega
      · obtain ⟨ht', hg'⟩ := tch b' _ h' hg' h2
        exact hM.inj b b' I I' cs' es' fl' o hne hr hr' (by rw [hA b I hr ht]; exact hg) (by rw [hA b' I' hr' ht']; exact hg') hfl
  · rw [World.size_alloc, hsz]; omega
  · intro k hk _; exact old k hk
  · intro b I hr hb
    rcases Ren.set_inv hr with ⟨rfl, rfl⟩ | ⟨_, hr⟩
    · exact .inl (Nat.le_refl _)
    · rw [hb] at hr; cases hr
  · intro b I hr hb
    rcases Ren.set_inv hr with ⟨rfl, rfl⟩ | ⟨_, hr⟩
    · rw [World.size_alloc]; simp only; omega
    · rw [hb] at hr; cases hr

theorem heap_setRow {k : Nat} {old cs : Array Value} {el : TypeId} {fz : Nat × Nat} (h : w.heap[k]? = some (.cells old el fz)) : (w.setRow k cs).heap[k]? = some (.cells cs el fz) := Go.setRow_heap w k old cs el fz h
theorem splice_get {α : Type} (l m : List α) (a i : Nat) (h : a + m.length ≤ l.length) :
    (l.take a ++ (m ++ l.drop (a + m.length)))[i]? = if i < a then l[i]? else if i < a + m.length then m[i - a]? else l[i]? := by
  have ha : (l.take a).length = a := by simp; omega
  by_cases h1 : i < a
  · rw [if_pos h1, List.getElem?_append_left (by omega), List.getElem?_take_of_lt h1]
  · rw [if_neg h1, List.getElem?_append_right (by omega), ha]
    by_cases h2 : i < a + m.length
    · rw [if_pos h2, List.getElem?_append_left (by omega)]
    · rw [if_neg h2, List.getElem?_append_right (by omega), List.getElem?_drop]
      congr 1; omega
/-- A row of cells stored into a block. -/
theorem HStep.store (hM : MemR ρ A w) (hA : ∀ b I, ρ b = some I → τ b → A b = H.bl.get b) (hn : ∀ b, H.nx ≤ b → H.bl.get b = none)
    {k : Nat} {I : BI} {cs cs' : List V} {es : Nat} {fl : Fl} (hk : ρ k = some I) (hg : H.bl.get k = some (.cells cs es fl)) (hτ : τ k) (hfl : fl ≠ .ro)
    {o : Nat} {vs : List V} {us : List Value} (hv : VRs ρ vs us) (hcs : spliceX o vs cs = some cs') :
    ∃ cc el, w.heap[I.blk]? = some (.cells cc el (0, 0)) ∧ I.base + o + us.length ≤ cc.size ∧
      HStep ρ τ H w (H.write k (some (.cells cs' es fl))) (w.setRow I.blk (cc.toList.take (I.base + o) ++ us ++ cc.toList.drop (I.base + o + us.length)).toArray) ρ := by
  have hAk : A k = some (.cells cs es fl) := by rw [hA k I hk hτ]; exact hg
  obtain ⟨cc, el, fz, h1, h2, h3, h4, h5⟩ := hM.get k I cs es fl hk hAk
  have hz := h2 hfl
  subst hz
  rw [spliceX_eq] at hcs
  have hlen := hv.length
  have hle : o + vs.length ≤ cs.length := by
    by_cases h : o + vs.length ≤ cs.length
    · exact h
    · rw [if_neg h] at hcs; cases hcs
  rw [if_pos hle] at hcs
  cases hcs
  refine ⟨cc, el, h1, by omega, ?_⟩
  have tch : ∀ b o', (τ b ∨ H.nx ≤ b) → (H.write k (some (.cells (cs.take o ++ (vs ++ cs.drop (o + vs.length))) es fl))).bl.get b = some o' → b ≠ k → τ b ∧ H.bl.get b = some o' := fun b o' h hg hne => by
    rw [Heap.get_write, if_neg hne] at hg
    exact ⟨h.resolve_right fun h => (by rw [hn b h] at hg; cases hg), hg⟩
  refine ⟨fun _ _ h => h, fun b I h => .inl h, ?_, ?_, by rw [Go.setRow_size]; exact Nat.le_refl _, ?_, fun b I h h' => (by rw [h'] at h; cases h), fun b I h h' => (by rw [h'] at h; cases h), Outside.setRow _ _ _⟩
  · intro b J ds es' fl' h hr hgb
    by_cases hb : b = k
    · subst hb
      rw [hk] at hr; cases hr
      rw [Heap.get_write, if_pos rfl] at hgb; cases hgb
      refine ⟨_, el, (0, 0), heap_setRow h1, fun _ => rfl, ?_, ?_, ?_⟩
      · simp; omega
      · intro i v hi
        rw [splice_get _ _ _ _ hle] at hi
        have e : ∀ j, (cc.toList.take (I.base + o) ++ us ++ cc.toList.drop (I.base + o + us.length)).toArray[j]? =
            if j < I.base + o then cc[j]? else if j < I.base + o + us.length then us[j - (I.base + o)]? else cc[j]? := fun j => by
          have := splice_get cc.toList us (I.base + o) j (by simp; omega)
          rw [← List.append_assoc] at this
          simpa using this
        rw [e]
        by_cases i1 : i < o
        · rw [if_pos i1] at hi
          obtain ⟨c, k1, k2⟩ := h4 i v hi
          exact ⟨c, by rw [if_pos (by omega)]; exact k1, k2⟩
        · rw [if_neg i1] at hi
          by_cases i2 : i < o + vs.length
          · rw [if_pos i2] at hi
            obtain ⟨c, k1, k2⟩ := hv.get _ v hi
            refine ⟨c, ?_, k2⟩
            rw [if_neg (by omega), if_pos (by omega)]
            have : I.base + i - (I.base + o) = i - o := by omega
            rw [this]; exact k1
          · rw [if_neg i2] at hi
            obtain ⟨c, k1, k2⟩ := h4 i v hi
            exact ⟨c, by rw [if_neg (by omega), if_neg (by omega)]; exact k1, k2⟩
      · have : (cc.toList.take (I.base + o) ++ us ++ cc.toList.drop (I.base + o + us.length)).toArray.size = cc.size := by simp; omega
        rw [this]; exact h5
    · obtain ⟨ht, hgb⟩ := tch b _ h hgb hb
      have ho := hM.get b J ds es' fl' hr (by rw [hA b J hr ht]; exact hgb)
      refine ho.mono (fun _ _ h => h) (Go.setRow_other w _ _ _ ?_)
      exact fun e => hM.inj k b I J cs es fl _ (Ne.symm hb) hk hr hAk (by rw [hA b J hr ht]; exact hgb) hfl e.symm
  · intro b b' J J' ds es' fl' o' h h' hne hr hr' hgb hgb' hfl'
    by_cases hb : b = k
    · subst hb
      rw [Heap.get_write, if_pos rfl] at hgb; cases hgb
      obtain ⟨ht', hgb'⟩ := tch b' _ h' hgb' (Ne.symm hne)
      exact hM.inj b b' J J' cs es _ o' hne hr hr' hAk (by rw [hA b' J' hr' ht']; exact hgb') hfl'
    · obtain ⟨ht, hgb⟩ := tch b _ h hgb hb
      have ha := (hA b J hr ht).trans hgb
      by_cases hb' : b' = k
      · subst hb'
        exact hM.inj b b' J J' ds es' fl' _ hne hr hr' ha hAk hfl'
      · obtain ⟨ht', hgb'⟩ := tch b' _ h' hgb' hb'
        exact hM.inj b b' J J' ds es' fl' o' hne hr hr' ha ((hA b' J' hr' ht').trans hgb') hfl'
  · intro j hj hno
    exact Go.setRow_other w _ _ _ (fun e => hno k I cs es fl hτ hk hg hfl e.symm)

/-- Cells laid behind what is known of a block: the block is given up, another one begins where the known cells lie. -/
theorem HStep.grow (hM : MemR ρ A w) (hA : ∀ b I, ρ b = some I → τ b → A b = H.bl.get b) (hn : ∀ b, H.nx ≤ b → H.bl.get b = none) (hf : ρ H.nx = none)
    {k : Nat} {I : BI} {cs old : List V} {es : Nat} (hk : ρ k = some I) (hg : H.bl.get k = some (.cells cs es .loose)) (hτ : τ k)
    {o n : Nat} {vs : List V} {us : List Value} (hv : VRs ρ vs us) (hcs : cut cs o n = some old) (hroom : ∀ sz, I.loose = some (es, sz) → I.base + o + n + us.length ≤ sz) :
    ∃ cc el, w.heap[I.blk]? = some (.cells cc el (0, 0)) ∧ I.base + o + n + us.length ≤ cc.size ∧
      HStep ρ τ H w ((H.new (.cells (old ++ vs) es .loose)).write k none) (w.setRow I.blk (cc.toList.take (I.base + o + n) ++ us ++ cc.toList.drop (I.base + o + n + us.length)).toArray) (ρ.set H.nx ⟨I.blk, I.base + o, I.loose⟩) := by
  have hAk : A k = some (.cells cs es .loose) := by rw [hA k I hk hτ]; exact hg
  obtain ⟨cc, el, fz, h1, h2, h3, h4, h5⟩ := hM.get k I cs es .loose hk hAk
  have hz := h2 (by simp)
  subst hz
  have hr0 := hroom _ h5
  obtain ⟨hle, rfl⟩ := cut_some hcs
  have hlen := hv.length
  have hkn : k ≠ H.nx := fun e => by rw [e, hf] at hk; cases hk
  have hmono := Ren.le_set (ρ := ρ) (b := H.nx) ⟨I.blk, I.base + o, I.loose⟩ hf
  have hol : ((cs.drop o).take n).length = n := by simp; omega
  refine ⟨cc, el, h1, by omega, ?_⟩
  have getN : ∀ b, ((H.new (.cells ((cs.drop o).take n ++ vs) es .loose)).write k none).bl.get b = if b = k then none else if b = H.nx then some (.cells ((cs.drop o).take n ++ vs) es .loose) else H.bl.get b := fun b => by
    rw [Heap.get_write, Heap.get_new]
  have tch : ∀ b o', (τ b ∨ H.nx ≤ b) → ((H.new (.cells ((cs.drop o).take n ++ vs) es .loose)).write k none).bl.get b = some o' → b ≠ H.nx → τ b ∧ b ≠ k ∧ H.bl.get b = some o' := fun b o' h hgb hne => by
    rw [getN] at hgb
    by_cases e : b = k
    · rw [if_pos e] at hgb; cases hgb
    · rw [if_neg e, if_neg hne] at hgb
      exact ⟨h.resolve_right fun h => (by rw [hn b h] at hgb; cases hgb), e, hgb⟩
  have hnew : OR (ρ.set H.nx ⟨I.blk, I.base + o, I.loose⟩) ⟨I.blk, I.base + o, I.loose⟩ ((cs.drop o).take n ++ vs) es .loose
      (w.setRow I.blk (cc.toList.take (I.base + o + n) ++ us ++ cc.toList.drop (I.base + o + n + us.length)).toArray) := by
    have hsz : (cc.toList.take (I.base + o + n) ++ us ++ cc.toList.drop (I.base + o + n + us.length)).toArray.size = cc.size := by simp; omega
    refine ⟨_, el, (0, 0), heap_setRow h1, fun _ => rfl, ?_, ?_, ?_⟩
    · rw [hsz, List.length_append, hol]; simp only; omega
    · intro i v hi
      have e : ∀ j, (cc.toList.take (I.base + o + n) ++ us ++ cc.toList.drop (I.base + o + n + us.length)).toArray[j]? =
          if j < I.base + o + n then cc[j]? else if j < I.base + o + n + us.length then us[j - (I.base + o + n)]? else cc[j]? := fun j => by
        have := splice_get cc.toList us (I.base + o + n) j (by simp; omega)
        rw [← List.append_assoc] at this
        simpa using this
      rw [e]
      by_cases i1 : i < n
      · rw [List.getElem?_append_left (by omega), List.getElem?_take_of_lt i1, List.getElem?_drop] at hi
        obtain ⟨c, k1, k2⟩ := h4 _ v hi
        refine ⟨c, ?_, k2.mono hmono⟩
        rw [if_pos (by simp only; omega)]
        have : (⟨I.blk, I.base + o, I.loose⟩ : BI).base + i = I.base + (o + i) := by simp only; omega
        rw [this]; exact k1
      · rw [List.getElem?_append_right (by omega), hol] at hi
        obtain ⟨c, k1, k2⟩ := hv.get _ v hi
        refine ⟨c, ?_, k2.mono hmono⟩
        have hil : i - n < vs.length := (List.getElem?_eq_some_iff.1 hi).1
        rw [if_neg (by simp only; omega), if_pos (by simp only; omega)]
        have : (⟨I.blk, I.base + o, I.loose⟩ : BI).base + i - (I.base + o + n) = i - n := by simp only; omega
        rw [this]; exact k1
    · rw [hsz]; exact h5
  refine ⟨hmono, ?_, ?_, ?_, by rw [Go.setRow_size]; exact Nat.le_refl _, ?_, ?_, ?_, Outside.setRow _ _ _⟩
  · intro b J h
    rcases Ren.set_inv h with ⟨rfl, _⟩ | ⟨_, h⟩
    · exact .inr ⟨Nat.le_refl _, Nat.lt_succ_self _⟩
    · exact .inl h
  · intro b J ds es' fl' h hr hgb
    rcases Ren.set_inv hr with ⟨rfl, rfl⟩ | ⟨hne, hr⟩
    · rw [getN, if_neg (Ne.symm hkn), if_pos rfl] at hgb; cases hgb; exact hnew
    · obtain ⟨ht, hbk, hgb⟩ := tch b _ h hgb hne
      have hAb := (hA b J hr ht).trans hgb
      have ho := hM.get b J ds es' fl' hr hAb
      exact ho.mono hmono (Go.setRow_other w _ _ _ fun e => hM.inj k b I J cs es _ _ (Ne.symm hbk) hk hr hAk hAb (by simp) e.symm)
  · intro b b' J J' ds es' fl' o' h h' hne hr hr' hgb hgb' hfl'
    rcases Ren.set_inv hr with ⟨rfl, rfl⟩ | ⟨hb, hr⟩
    · rcases Ren.set_inv hr' with ⟨rfl, rfl⟩ | ⟨hb', hr'⟩
      · exact absurd rfl hne
      · obtain ⟨ht', hbk', hgb'⟩ := tch b' _ h' hgb' hb'
        exact hM.inj k b' I J' cs es _ o' (Ne.symm hbk') hk hr' hAk ((hA b' J' hr' ht').trans hgb') (by simp)
    · obtain ⟨ht, hbk, hgb⟩ := tch b _ h hgb hb
      have ha := (hA b J hr ht).trans hgb
      rcases Ren.set_inv hr' with ⟨rfl, rfl⟩ | ⟨hb', hr'⟩
      · exact hM.inj b k J I ds es' fl' _ hbk hr hk ha hAk hfl'
      · obtain ⟨ht', hbk', hgb'⟩ := tch b' _ h' hgb' hb'
        exact hM.inj b b' J J' ds es' fl' o' hne hr hr' ha ((hA b' J' hr' ht').trans hgb') hfl'
  · intro j hj hno
    exact Go.setRow_other w _ _ _ (fun e => hno k I cs es _ hτ hk hg (by simp) e.symm)
  · intro b J hr hb
    rcases Ren.set_inv hr with ⟨rfl, rfl⟩ | ⟨_, hr⟩
    · exact .inr ⟨k, I, cs, es, _, hτ, hk, hg, by simp, rfl⟩
    · rw [hb] at hr; cases hr
  · intro b J hr hb
    rcases Ren.set_inv hr with ⟨rfl, rfl⟩ | ⟨_, hr⟩
    · rw [Go.setRow_size]; exact hM.lt k I hk
    · rw [hb] at hr; cases hr
end
end Am
