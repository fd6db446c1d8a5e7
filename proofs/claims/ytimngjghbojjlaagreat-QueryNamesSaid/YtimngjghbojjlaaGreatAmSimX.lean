/-
What the abstract machine's own operations leave alone: no model in sight.
-/
import Derived.Test.YtimngjghbojjlaaGreatAmSimO
namespace Am
open Go (IntKind FloatKind BinOp UnOp Value Addr World Program Act Oper Op Operand TypeDesc TypeInfo TypeId Func Builtin)

/-- The least block that was written goes down alone, and tells of all that was written. -/
structure LoStep (H H' : Heap) : Prop where
  down : ∀ l, H.lo = some l → ∃ l', H'.lo = some l' ∧ l' ≤ l
  tells : ∀ b, b < H.nx → H'.bl.get b ≠ H.bl.get b → ∃ l', H'.lo = some l' ∧ l' ≤ b
theorem LoStep.refl (H : Heap) : LoStep H H := ⟨fun l h => ⟨l, h, Nat.le_refl _⟩, fun _ _ h => absurd rfl h⟩
theorem LoStep.trans {H H1 H2 : Heap} (h1 : LoStep H H1) (h2 : LoStep H1 H2) (hn : H.nx ≤ H1.nx) : LoStep H H2 := by
  constructor
  · intro l h
    obtain ⟨l1, k1, k2⟩ := h1.down l h
    obtain ⟨l2, k3, k4⟩ := h2.down l1 k1
    exact ⟨l2, k3, Nat.le_trans k4 k2⟩
  · intro b hb hne
    by_cases e : H2.bl.get b = H1.bl.get b
    · rw [e] at hne
      obtain ⟨l1, k1, k2⟩ := h1.tells b hb hne
      obtain ⟨l2, k3, k4⟩ := h2.down l1 k1
      exact ⟨l2, k3, Nat.le_trans k4 k2⟩
    · exact h2.tells b (Nat.lt_of_lt_of_le hb hn) e
theorem LoStep.new (H : Heap) (o : Am.Obj) : LoStep H (H.new o) :=
  ⟨fun l h => ⟨l, h, Nat.le_refl _⟩, fun b hb h => absurd (by rw [Heap.get_new, if_neg (by omega)]) h⟩
theorem loMin_le (a : Option Nat) (b : Nat) : ∃ l, loMin a (some b) = some l ∧ l ≤ b ∧ ∀ x, a = some x → l ≤ x := by
  cases a with
  | none => exact ⟨b, rfl, Nat.le_refl _, fun x h => by cases h⟩
  | some x =>
    refine ⟨bif Nat.ble x b then x else b, rfl, ?_⟩
    rw [ble_dec]
    by_cases h : x ≤ b
    · simp only [h, decide_true, cond_true]; exact ⟨trivial, fun y hy => by cases hy; exact Nat.le_refl _⟩
    · simp only [h, decide_false, cond_false]; exact ⟨Nat.le_refl _, fun y hy => by cases hy; omega⟩
theorem LoStep.write (H : Heap) (k : Nat) (o : Option Am.Obj) : LoStep H (H.write k o) := by
  obtain ⟨l, h1, h2, h3⟩ := loMin_le H.lo k
  refine ⟨fun x hx => ⟨l, h1, h3 x hx⟩, fun b _ hne => ?_⟩
  rw [Heap.get_write] at hne
  by_cases e : b = k
  · exact ⟨l, h1, by omega⟩
  · rw [if_neg e] at hne; exact absurd rfl hne

/-- What calls leave alone. -/
def OrcLe (C : Orc) : Prop := ∀ f args H v H', (∀ b, H.nx ≤ b → H.bl.get b = none) → C f args H = some (v, H') → HLe (fun _ => True) H H' ∧ ∀ b, b < H.nx → H'.bl.get b ≠ H.bl.get b → ∃ l', H'.lo = some l' ∧ l' ≤ b
/-- What an operation says of itself is so. -/
def FxOk (H : Heap) (bx : T (List V)) (nb : Nat) (res : Res) : Prop :=
  LoStep H res.hp ∧
  match res.fx with
  | .pu => res.hp = H ∧ res.bx = bx ∧ res.nb = nb
  | .bx g x => res.hp = H ∧ nb ≤ res.nb ∧ (∀ g', g' ≠ g → res.bx.get g' = bx.get g') ∧ (x = false → res.bx = bx) ∧ (∀ g', res.nb ≤ g' → res.bx.get g' = none) ∧ ((g < nb ∧ res.nb = nb) ∨ (g = nb ∧ res.nb = nb + 1 ∧ x = true))
  | .hs l => res.bx = bx ∧ res.nb = nb ∧ HLe (ol l) H res.hp ∧ ∀ b, tl l b → H.bl.get b ≠ none
  | .ha x => res.bx = bx ∧ res.nb = nb ∧ HLe (fun _ => x = true) H res.hp
def MOk (g : MSem) : Prop := ∀ C, OrcLe C → ∀ en bx nb H res, (∀ g', nb ≤ g' → bx.get g' = none) → (∀ b, H.nx ≤ b → H.bl.get b = none) → g C en bx nb H = some res → FxOk H bx nb res

section
variable {en : En} {bx : T (List V)} {nb : Nat} {H : Heap} {res : Res}
theorem lt_nx (hn : ∀ b, H.nx ≤ b → H.bl.get b = none) {b : Nat} {o : Am.Obj} (h : H.bl.get b = some o) : b < H.nx := by
  rcases Nat.lt_or_ge b H.nx with k | k
  · exact k
  · rw [hn b k] at h; cases h
theorem lt_nb (bn : ∀ g, nb ≤ g → bx.get g = none) {g : Nat} {cs : List V} (h : bx.get g = some cs) : g < nb := by
  rcases Nat.lt_or_ge g nb with k | k
  · exact k
  · rw [bn g k] at h; cases h
theorem fx_box (bn : ∀ g, nb ≤ g → bx.get g = none) (cs : List V) : FxOk H bx nb ⟨.lp nb 0, bx.set nb cs, nb + 1, H, .bx nb true⟩ := by
  refine ⟨LoStep.refl H, rfl, Nat.le_succ _, fun g' h => (by rw [T.get_set, if_neg h]), fun h => (by cases h), fun g' h => ?_, .inr ⟨rfl, rfl, rfl⟩⟩
  have h : nb + 1 ≤ g' := h
  rw [T.get_set, if_neg (by omega)]
  exact bn g' (by omega)
theorem fx_new {cs : List V} {v : V} (h : fresh bx nb H cs v [] = some res) : FxOk H bx nb res := by
  unfold fresh at h; cases h
  exact ⟨LoStep.new H _, rfl, rfl, HLe.new _ H _, fun b hb => (tl_nil hb).elim⟩
theorem fx_look {l : List (Nat × Bool)} {s : S} (h : ∀ b, tl l b → H.bl.get b ≠ none) : FxOk H bx nb ⟨s, bx, nb, H, .hs l⟩ := ⟨LoStep.refl H, rfl, rfl, HLe.refl _ H, h⟩
theorem fx_st (hn : ∀ b, H.nx ≤ b → H.bl.get b = none) {b o : Nat} {vs : List V} {s : S} {l : List (Nat × Bool)} (hl : ∀ b, tl l b → H.bl.get b ≠ none) (h : stBlk bx nb H b o vs s l = some res) : FxOk H bx nb res := by
  unfold stBlk at h
  split at h
  · rename_i cs es fl hb
    split at h
    · cases h
    · split at h
      · cases h
        refine ⟨LoStep.write H _ _, rfl, rfl, HLe.write hb (lt_nx hn hb) (by simp [ol]), fun k hk => ?_⟩
        rcases tl_cons hk with rfl | hk
        · rw [hb]; simp
        · exact hl k hk
      · cases h
  · cases h
theorem fx_row {x : Option (Nat × Nat)} {len n : Nat} {r : List V} (h : rowOf H x len n = some r) : ∀ b, tl (blkOf x) b → H.bl.get b ≠ none := by
  intro b ⟨y, hy⟩
  unfold rowOf at h
  split at h
  · cases hy
  · rename_i b' o
    simp only [blkOf, List.mem_singleton, Prod.mk.injEq] at hy
    split at h
    · rename_i hb; rw [hy.1, hb]; simp
    · cases h
theorem fx_out {x : Option (Nat × Nat)} {len n need : Nat} {new : List V} {yf : List (Nat × Bool)} (hn : ∀ b, H.nx ≤ b → H.bl.get b = none) (hl : ∀ b, tl yf b → H.bl.get b ≠ none) (h : appOut bx nb H x len n need new yf = some res) : FxOk H bx nb res := by
  unfold appOut at h
  split at h
  · cases h
  · split at h
    · cases h; exact ⟨LoStep.new H _, rfl, rfl, HLe.new _ H _, hl⟩
    · rename_i b o _
      split at h
      · rename_i cs es hb
        generalize Nat.beq es n = q at h
        cases q with
        | false => cases h
        | true =>
          rw [cond_true] at h; cases h
          have hlt := lt_nx hn hb
          refine ⟨(LoStep.new H _).trans (LoStep.write _ _ _) (Nat.le_succ _), rfl, rfl, (HLe.new _ H _).trans (HLe.drop (ω := ol ((b, true) :: yf)) (Nat.lt_succ_of_lt hlt) (by simp [ol])) (fun _ _ h => h), fun k hk => ?_⟩
          rcases tl_cons hk with rfl | hk
          · rw [hb]; simp
          · exact hl k hk
      · rename_i hb
        cases h
        refine ⟨LoStep.new H _, rfl, rfl, HLe.new _ H _, fun k hk => ?_⟩
        rcases tl_cons hk with rfl | hk
        · rw [hb]; simp
        · exact hl k hk
      · cases h
theorem fx_call {C : Orc} (hC : OrcLe C) (hn : ∀ b, H.nx ≤ b → H.bl.get b = none) {f : Nat} {args : List V} (h : callRes bx nb H (C f args { H with lo := none }) = some res) : FxOk H bx nb res := by
  obtain ⟨v, H', hr⟩ := callRes_some h
  rw [hr] at h
  cases h
  obtain ⟨h1, h2⟩ := hC _ _ { H with lo := none } _ _ hn hr
  have key : ∀ b, b < H.nx → H'.bl.get b ≠ H.bl.get b → ∃ l', H'.lo = some l' ∧ l' ≤ b := fun b hb hne => h2 b hb hne
  refine ⟨⟨?_, ?_⟩, rfl, rfl, ⟨h1.nx, h1.none_, h1.kind, fun b hb hx => ?_⟩⟩
  · intro l hl
    simp only
    cases ho : H'.lo with
    | none => rw [hl]; exact ⟨l, rfl, Nat.le_refl _⟩
    | some x =>
      obtain ⟨l', e1, _, e3⟩ := loMin_le H.lo x
      exact ⟨l', e1, e3 l hl⟩
  · intro b hb hne
    obtain ⟨l', k1, k2⟩ := key b hb hne
    obtain ⟨l2, e1, e2, _⟩ := loMin_le H.lo l'
    exact ⟨l2, by simp only [k1]; exact e1, by omega⟩
  · by_cases hne : H'.bl.get b = H.bl.get b
    · exact hne
    · obtain ⟨l', k1, _⟩ := key b hb hne
      exact absurd (by rw [k1]; rfl) hx
end
theorem ok_lbox (x : Opd) : MOk (mLbox x) := fun C _ en bx nb H res bn _ h => by
  unfold mLbox at h
  obtain ⟨v, _, h⟩ := evV_match h
  cases h; exact fx_box bn _
theorem ok_lnew (z : List V) : MOk (mLnew z) := fun C _ en bx nb H res bn _ h => by
  unfold mLnew at h; cases h; exact fx_box bn _
theorem ok_hbox (x : Opd) : MOk (mHbox x) := fun C _ en bx nb H res _ _ h => by
  unfold mHbox at h
  obtain ⟨v, _, h⟩ := evV_match h
  exact fx_new h
theorem ok_hnew (z : List V) : MOk (mHnew z) := fun C _ en bx nb H res _ _ h => by
  unfold mHnew at h; exact fx_new h
theorem ok_ld (x : Opd) (n : Nat) (ag : Bool) : MOk (mLd x n ag) := fun C _ en bx nb H res bn _ h => by
  unfold mLd at h
  split at h
  · unfold ldBox at h
    split at h
    · rename_i cs hb
      split at h
      · cases h
        exact ⟨LoStep.refl H, rfl, Nat.le_refl _, fun _ _ => rfl, fun _ => rfl, bn, .inl ⟨lt_nb bn hb, rfl⟩⟩
      · cases h
    · cases h
  · unfold ldBlk at h
    split at h
    · rename_i hb
      split at h
      · cases h
        refine fx_look fun k hk => ?_
        rcases tl_cons hk with rfl | hk
        · rw [hb]; simp
        · exact (tl_nil hk).elim
      · cases h
    · cases h
  · cases h
theorem ok_st (x v : Opd) (n : Nat) : MOk (mSt x v n) := fun C _ en bx nb H res bn hn h => by
  unfold mSt at h
  split at h
  · cases h
  · rename_i u hu
    generalize (lenIs u.cells n && allS u.cells) = q at h
    cases q with
    | false => cases h
    | true =>
      rw [cond_true] at h
      split at h
      · unfold stBox at h
        split at h
        · rename_i cs hb
          split at h
          · cases h
            refine ⟨LoStep.refl H, rfl, Nat.le_refl _, fun g' hg => (by rw [T.get_set, if_neg hg]), fun h => (by cases h), fun g' hg => ?_, .inl ⟨lt_nb bn hb, rfl⟩⟩
            have := lt_nb bn hb
            have hg : nb ≤ g' := hg
            rw [T.get_set, if_neg (by omega)]; exact bn g' hg
          · cases h
        · cases h
      · exact fx_st hn (fun b hb => (tl_nil hb).elim) h
      · cases h
theorem ok_slc (x : Opd) (lo hi mx : Option Opd) (n : Nat) : MOk (mSlc x lo hi mx n) := fun C _ en bx nb H res bn hn h => by
  unfold mSlc at h
  split at h
  · split at h
    · split at h
      · cases h; exact ⟨LoStep.refl H, rfl, rfl, rfl⟩
      · rename_i b o _
        unfold slcIn at h
        split at h
        · rename_i cs es fl hb
          have hk : ∀ k, tl [(b, false)] k → H.bl.get k ≠ none := fun k hk => by
            rcases tl_cons hk with rfl | hk
            · rw [hb]; simp
            · exact (tl_nil hk).elim
          split at h
          · generalize (Nat.beq es n && (Nat.ble _ _ && !(Nat.beq _ _ && !(Nat.beq _ 0)))) = q at h
            cases q with
            | false => cases h
            | true => rw [cond_true] at h; cases h; exact fx_look hk
          · cases h; exact fx_look hk
        · cases h
    · cases h
  · cases h
theorem ok_bsl (len : Nat) (z : List V) (ps : List (Nat × Nat × Opd)) : MOk (mBsl len z ps) := fun C _ en bx nb H res _ _ h => by
  unfold mBsl at h
  split at h
  · split at h
    · exact fx_new h
    · cases h
  · cases h
theorem ok_msl (l c : Opd) (bytes : Nat) (z : List V) : MOk (mMsl l c bytes z) := fun C _ en bx nb H res _ _ h => by
  unfold mMsl at h
  split at h
  · split at h
    · generalize (Nat.ble _ _ && (Nat.ble _ 281474976710656 && Nat.ble _ 9223372036854775807)) = q at h
      cases q with
      | false => cases h
      | true => rw [cond_true] at h; exact fx_new h
    · cases h
  · cases h
theorem ok_app (x y : Opd) (n bytes : Nat) : MOk (mApp x y n bytes) := fun C _ en bx nb H res bn hn h => by
  unfold mApp at h
  split at h
  · split at h
    · split at h
      · cases h
      · rename_i new hrow
        have hl := fx_row hrow
        generalize allS new = q1 at h
        cases q1 with
        | false => cases h
        | true =>
          rw [cond_true] at h
          generalize Nat.ble (_ + _) _ = q2 at h
          cases q2 with
          | true =>
            rw [cond_true] at h
            unfold appIn at h
            split at h
            · cases h; exact fx_look hl
            · split at h
              · cases h; exact fx_look hl
              · exact fx_st hn hl h
          | false =>
            rw [cond_false] at h
            generalize Nat.ble _ 140737488355328 = q3 at h
            cases q3 with
            | false => cases h
            | true => rw [cond_true] at h; exact fx_out hn hl h
    · cases h
  · cases h
theorem ok_cpy (x y : Opd) (n : Nat) : MOk (mCpy x y n) := fun C _ en bx nb H res bn hn h => by
  unfold mCpy at h
  split at h
  · split at h
    · split at h
      · cases h
      · rename_i new hrow
        have hl := fx_row hrow
        generalize allS new = q1 at h
        cases q1 with
        | false => cases h
        | true =>
          rw [cond_true] at h
          split at h
          · cases h; exact fx_look hl
          · exact fx_st hn hl h
    · cases h
  · cases h
theorem ok_call (f : Opd) (args : List Opd) : MOk (mCall f args) := fun C hC en bx nb H res bn hn h => by
  unfold mCall at h
  split at h
  · split at h
    · exact fx_call hC hn h
    · cases h
  · cases h
theorem ok_meth (x : Opd) (tbl : List (Nat × Nat)) (args : List Opd) : MOk (mMeth x tbl args) := fun C hC en bx nb H res bn hn h => by
  unfold mMeth at h
  split at h
  · split at h
    · split at h
      · exact fx_call hC hn h
      · cases h
    · cases h
  · cases h

section
variable {P : Program} {tt : TT} {ft : FT} {wr : Wr}
theorem ok_compile {esc : Nat} {mt : List TypeId} {o : Oper} {g : MSem} (hc : compileOp P tt ft wr esc mt o = some (.m g)) : MOk g := by
  have hp1 : ∀ {F : Opd → PSem} {x : Option Opd}, c1 F x ≠ some (.m g) := fun {F x} h => by cases x <;> cases h
  have hp2 : ∀ {F : Opd → Opd → PSem} {x y : Option Opd}, c2 F x y ≠ some (.m g) := fun {F x y} h => by cases x <;> cases y <;> cases h
  unfold compileOp at hc
  generalize o.op = op at hc
  cases op <;> simp only at hc
  case alloc e =>
    unfold cAlloc at hc
    split at hc
    · cases hl : isLoc esc o.dst with
      | true => rw [hl] at hc; cases hc; exact ok_lnew _
      | false => rw [hl] at hc; cases hc; exact ok_hnew _
    · cases hc
  case box e x =>
    unfold cBox at hc
    split at hc
    · cases hl : isLoc esc o.dst with
      | true => rw [hl] at hc; cases hc; exact ok_lbox _
      | false => rw [hl] at hc; cases hc; exact ok_hbox _
    · cases hc
  case buildSlice t len ps =>
    unfold cBsl bslM at hc
    repeat' split at hc
    all_goals first
      | (cases hc; done)
      | (generalize (Nat.ble (Nat.mul len _) 16777216 && (lenIs _ _ && Nat.blt 0 _)) = q at hc
         cases q with
         | false => cases hc
         | true => rw [cond_true] at hc; cases hc <;> exact ok_bsl _ _ _)
  case load t x =>
    unfold cLd at hc
    repeat' split at hc
    all_goals first | (cases hc; exact ok_ld _ _ _) | cases hc
  case store t x v =>
    unfold cSt at hc
    repeat' split at hc
    all_goals first | (cases hc; exact ok_st _ _ _) | cases hc
  case makeSlice t l c =>
    unfold cMsl at hc
    repeat' split at hc
    all_goals first
      | (cases hc; done)
      | (generalize (lenIs _ _ && Nat.blt 0 _) = q at hc
         cases q with
         | false => cases hc
         | true => rw [cond_true] at hc; cases hc <;> exact ok_msl _ _ _ _)
  case slice t x lo hi mx =>
    unfold cSlc at hc
    repeat' split at hc
    all_goals first | (cases hc; exact ok_slc _ _ _ _ _) | cases hc
  case call c =>
    unfold compileCall at hc
    split at hc
    · cases hc
    · split at hc
      · unfold compileBuiltin at hc
        repeat' split at hc
        all_goals first
          | (cases hc; done)
          | (obtain ⟨e, e', n, bytes, z, _, _, _, _, _, _, _, rfl⟩ := cApp_inv hc; exact ok_app _ _ _ _)
          | (obtain ⟨e, n, _, _, rfl⟩ := cCpy_inv hc; exact ok_cpy _ _ _)
      · split at hc
        · cases hc; exact ok_meth _ _ _
        · cases hc
      · have := cFun_m hc; subst this; exact ok_call _ _
      · split at hc
        · cases hc; exact ok_call _ _
        · cases hc
  case pick => unfold cPick at hc; split at hc; · exact absurd hc hp2
               · cases hc
  case build =>
    unfold cBuild bldP at hc
    repeat' split at hc
    all_goals cases hc
  case binOp =>
    unfold cBin compileEq eqsP at hc
    repeat' split at hc
    all_goals first
      | (cases hc; done)
      | (generalize P.eqGuardType P.depth _ = b at hc; cases b <;> first | (cases hc; done) | (rw [cond_false] at hc; split at hc <;> cases hc))
  case convert =>
    unfold cConv at hc
    repeat' split at hc
    all_goals first | exact absurd hc hp1 | cases hc
  case makeInterface =>
    unfold cIfc at hc
    repeat' split at hc
    all_goals first | exact absurd hc hp1 | cases hc
  case makeFunc =>
    unfold cMkf at hc
    repeat' split at hc
    all_goals cases hc
  case fieldAddr =>
    unfold cFld at hc
    repeat' split at hc
    all_goals first | exact absurd hc hp1 | cases hc
  case field =>
    unfold cPart at hc
    repeat' split at hc
    all_goals first | exact absurd hc hp1 | cases hc
  case indexAddr =>
    unfold cIxa at hc
    repeat' split at hc
    all_goals first | exact absurd hc hp2 | cases hc
  case index =>
    unfold cIx at hc
    repeat' split at hc
    all_goals first | exact absurd hc hp1 | exact absurd hc hp2 | cases hc
  all_goals first | exact absurd hc hp1 | cases hc
end
end Am
