/-
What the translation makes of an operation of registers alone comes to what the model's operation comes to.
-/
import Derived.Test.YtimngjghbojjlaaGreatAmSimP
import Derived.Laws.Externs
import Derived.Laws.Pointers
import Derived.WalkSpells
import Derived.Laws.Small
namespace Am
open Go (IntKind FloatKind BinOp UnOp Value Addr World Program Act Oper Op Operand TypeDesc TypeInfo TypeId Sem Result Next execOp Func Builtin)

/-! ## Constants, operands -/
section
variable {ρ : Ren}
theorem constS_ok {v : Value} {x : V} (h : constS v = some x) : VR ρ x v := by
  unfold constS at h
  split at h <;> first | (cases h; done) | (cases h; first | exact .b _ | exact .i _ _ | exact .f _ | exact .c _ _ | exact .p0 | exact .s0 _ _ | exact .nilFn | exact .nilI)
theorem constL_ok : ∀ {l : List Value} {xs : List V}, constL l = some xs → VRs ρ xs l
  | [], xs, h => by simp only [constL, Option.some.injEq] at h; subst h; exact .nil
  | v :: l, xs, h => by
    simp only [constL] at h
    cases hv : constS v with
    | none => rw [hv] at h; cases h
    | some x =>
      rw [hv] at h
      simp only [consO_map, Option.map_eq_some_iff] at h
      obtain ⟨ys, hy, rfl⟩ := h
      exact .cons (constS_ok hv) (constL_ok hy)
theorem constV_ok {v : Value} {x : V} (h : constV v = some x) : VR ρ x v := by
  unfold constV at h
  split at h
  · rename_i cs
    cases hc : constL cs.toList with
    | none => rw [hc] at h; cases h
    | some xs => rw [hc] at h; cases h; exact .agg (constL_ok hc)
  · exact constS_ok h

/-- What is read of the registers, ahead of an operation. -/
def EnR (ρ : Ren) (π : Nat → Option Nat) (wr : Wr) (en : En) (a : Act) : Prop := ∀ t s, sees wr.m t = true → ev en (opdT t (findW t wr.l 0)) = some s → SR ρ π s (a.eval (.tmp t))
end
section
variable {ρ : Ren} {π : Nat → Option Nat} {wr : Wr} {en : En} {a : Act}
theorem opd_ok (hE : EnR ρ π wr en a) {x : Operand} {y : Opd} {s : S} (h : opd wr x = some y) (hs : ev en y = some s) : SR ρ π s (a.eval x) := by
  cases x with
  | tmp t =>
    simp only [opd] at h
    cases hm : sees wr.m t with
    | false => rw [hm] at h; cases h
    | true => rw [hm, cond_true, Option.some.injEq] at h; subst h; exact hE t s hm hs
  | const v =>
    simp only [opd] at h
    cases hv : constV v with
    | none => rw [hv] at h; cases h
    | some x => rw [hv] at h; cases h; simp only [ev, Option.some.injEq] at hs; subst hs; exact .v (constV_ok hv)
  | func f => simp only [opd, Option.some.injEq] at h; subst h; simp only [ev, Option.some.injEq] at hs; subst hs; exact .v (.fn .nil .nil)
  | global g => cases h
theorem evV_some {y : Opd} {v : V} (h : evV en y = some v) : ev en y = some (.v v) := by
  unfold evV at h
  split at h
  · rename_i x hx; cases h; exact hx
  · cases h
theorem opd_okV (hE : EnR ρ π wr en a) {x : Operand} {y : Opd} {v : V} (h : opd wr x = some y) (hs : evV en y = some v) : VR ρ v (a.eval x) := (opd_ok hE h (evV_some hs)).val
theorem idx_some {v : V} {n : Nat} (h : idx? v = some n) : ∃ k, v = .i k n := by
  unfold idx? at h
  split at h
  · cases h; exact ⟨_, rfl⟩
  · cases h
theorem opd_okI (hE : EnR ρ π wr en a) {x : Operand} {y : Opd} {n : Nat} (h : opd wr x = some y) (hs : evI en y = some n) : ∃ k, a.eval x = .int k n := by
  unfold evI at hs
  cases hv : evV en y with
  | none => rw [hv] at hs; cases hs
  | some v =>
    rw [hv] at hs
    obtain ⟨k, rfl⟩ := idx_some hs
    exact ⟨k, (opd_okV hE h hv).inv_i⟩
theorem opdL_ok (hE : EnR ρ π wr en a) : ∀ {xs : List Operand} {ys : List Opd} {vs : List V}, opdL wr xs = some ys → evL en ys = some vs → VRs ρ vs (xs.map a.eval)
  | [], ys, vs, h, hs => by
    simp only [opdL, Option.some.injEq] at h; subst h
    rw [evL_nil, Option.some.injEq] at hs; subst hs; exact .nil
  | x :: xs, ys, vs, h, hs => by
    simp only [opdL] at h
    cases hx : opd wr x with
    | none => rw [hx] at h; cases h
    | some y =>
      rw [hx] at h
      simp only [consO_map, Option.map_eq_some_iff] at h
      obtain ⟨zs, hz, rfl⟩ := h
      rw [evL_cons] at hs
      cases hv : evV en y with
      | none => rw [hv] at hs; cases hs
      | some v =>
        rw [hv] at hs
        simp only [consO_map, Option.map_eq_some_iff] at hs
        obtain ⟨us, hu, rfl⟩ := hs
        exact .cons (opd_okV hE hx hv) (opdL_ok hE hz hu)
theorem pMov_some {y : Opd} {r : S} (h : pMov y en = some r) : ev en y = some r := by
  unfold pMov at h
  split at h
  · cases h
  · exact h
theorem pMov_ok (hE : EnR ρ π wr en a) {x : Operand} {y : Opd} {r : S} (h : opd wr x = some y) (hr : pMov y en = some r) : SR ρ π r (a.eval x) := opd_ok hE h (pMov_some hr)
theorem c1_inv {F : Opd → PSem} {x : Option Opd} {f : PSem} (h : c1 F x = some (.p f)) : ∃ y, x = some y ∧ f = F y := by
  cases x with
  | none => cases h
  | some y => simp only [c1, Option.some.injEq, Sm.p.injEq] at h; exact ⟨y, rfl, h.symm⟩
theorem c2_inv {F : Opd → Opd → PSem} {x y : Option Opd} {f : PSem} (h : c2 F x y = some (.p f)) : ∃ x' y', x = some x' ∧ y = some y' ∧ f = F x' y' := by
  cases x with
  | none => cases h
  | some x => cases y with
    | none => cases h
    | some y => simp only [c2, Option.some.injEq, Sm.p.injEq] at h; exact ⟨x, y, rfl, rfl, h.symm⟩
theorem sv_some {o : Option V} {r : S} (h : sv o = some r) : ∃ v, o = some v ∧ r = .v v := by
  cases o with
  | none => cases h
  | some v => simp only [sv, Option.some.injEq] at h; exact ⟨v, rfl, h.symm⟩
/-- Opens the match on an option's being there. -/
theorem evV_match {α : Type} {y : Opd} {F : V → Option α} {r : α} (h : (match evV en y with | some v => F v | none => none) = some r) : ∃ v, evV en y = some v ∧ F v = some r := by
  cases hv : evV en y with
  | none => rw [hv] at h; cases h
  | some v => rw [hv] at h; exact ⟨v, rfl, h⟩
theorem evI_match {α : Type} {y : Opd} {F : Nat → Option α} {r : α} (h : (match evI en y with | some v => F v | none => none) = some r) : ∃ v, evI en y = some v ∧ F v = some r := by
  cases hv : evI en y with
  | none => rw [hv] at h; cases h
  | some v => rw [hv] at h; exact ⟨v, rfl, h⟩
end

/-! ## Operations -/
section
variable {P : Program} {tt : TT} {ft : FT} {ρ : Ren} {π : Nat → Option Nat} {wr : Wr} {en : En} {a : Act}
theorem wPick (hE : EnR ρ π wr en a) {c x y : Operand} {c' x' y' : Opd} {r : S} (hc : opd wr c = some c') (hx : opd wr x = some x') (hy : opd wr y = some y') (h : pPick c' x' y' en = some r) :
    NOk P ρ π (do Pure.pure (.value (if ← Go.asBool (a.eval c) then a.eval x else a.eval y))) r := by
  unfold pPick at h
  split at h
  · rename_i hb
    rw [(opd_okV hE hc hb).inv_b]
    exact NOk.pure (pMov_ok hE hx h)
  · rename_i hb
    rw [(opd_okV hE hc hb).inv_b]
    exact NOk.pure (pMov_ok hE hy h)
  · cases h
theorem wChk (hE : EnR ρ π wr en a) {x : Operand} {y : Opd} {r : S} (hx : opd wr x = some y) (h : pChk y en = some r) :
    ∃ b, a.eval x = .pointer (some b) ∧ SR ρ π r (a.eval x) := by
  unfold pChk at h
  split at h
  · rename_i g o he
    cases h
    have hs := opd_ok hE hx he
    obtain ⟨k, _, e⟩ := hs.inv_lp
    exact ⟨_, e, hs⟩
  · rename_i p he
    cases h
    have hs := opd_ok hE hx he
    obtain ⟨b, o⟩ := p
    obtain ⟨I, _, e⟩ := hs.val.inv_p
    exact ⟨_, e, hs⟩
  · cases h
theorem addr_add (b o n : Nat) : (⟨b, o, none⟩ : Addr).add n = ⟨b, o + n, none⟩ := by
  unfold Addr.add
  by_cases h : n = 0
  · rw [if_pos h]; subst h; rfl
  · rw [if_neg h]
theorem wFld (hE : EnR ρ π wr en a) {x : Operand} {y : Opd} {n : Nat} {r : S} (hx : opd wr x = some y) (h : pFld y n en = some r) :
    ∃ b, a.eval x = .pointer (some b) ∧ b.spot = none ∧ SR ρ π r (.pointer (some (b.add n))) := by
  unfold pFld at h
  split at h
  · rename_i g o he
    cases h
    obtain ⟨k, hk, e⟩ := (opd_ok hE hx he).inv_lp
    exact ⟨_, e, rfl, by rw [addr_add]; exact .lp hk⟩
  · rename_i b o he
    cases h
    obtain ⟨I, hI, e⟩ := (opd_ok hE hx he).val.inv_p
    exact ⟨_, e, rfl, by rw [addr_add, Nat.add_assoc]; exact .v (.p hI)⟩
  · cases h
theorem wBeq (hE : EnR ρ π wr en a) {x y : Operand} {x' y' : Opd} {neg : Bool} {t : TypeId} {r : S} (hu : P.underlying t = some .bool) (hx : opd wr x = some x') (hy : opd wr y = some y')
    (h : pBeq neg x' y' en = some r) : NOk P ρ π (do Go.eqGuard (bif neg then .neq else .eql) t x y (a.eval x) (a.eval y); let v ← Go.binOp (bif neg then .neq else .eql) t (a.eval x) (a.eval y); Pure.pure (.value v)) r := by
  unfold pBeq at h
  split at h
  · rename_i p hp
    split at h
    · rename_i q hq
      cases h
      rw [(opd_okV hE hx hp).inv_b, (opd_okV hE hy hq).inv_b]
      intro w
      refine ⟨.bool (bif neg then (bif p then !q else q) else (bif p then q else !q)), w, ?_, ⟨rfl, rfl, rfl⟩, .v (.b _)⟩
      cases neg
      · simp only [cond_false, Go.eqGuard, Sem.run_bind]
        simp [Go.run_eql_bool w t p q hu]
        cases p <;> cases q <;> rfl
      · simp only [cond_true, Go.eqGuard, Sem.run_bind]
        simp [Go.run_neq_bool w t p q hu]
        cases p <;> cases q <;> rfl
    · cases h
  · cases h

theorem eqIn_ptr {t e : TypeId} (hu : P.underlying t = some (.pointer e)) (d : Nat) (p q : Option Addr) (h : p = none ∨ q = none) (w : World) :
    (Go.Op.equalIn (d + 1) t (.pointer p) (.pointer q)).run P w = .ok (p.isNone && q.isNone) w := by
  cases p with
  | none => simp [Go.Op.equalIn, run_underlying hu]
  | some p =>
    have : q = none := by simpa using h
    subst this
    simp [Go.Op.equalIn, run_underlying hu]
theorem eqIn_slc {t e : TypeId} (hu : P.underlying t = some (.slice e)) (d : Nat) (p q : Option Addr) (l c l' c' : Nat) (h : p = none ∨ q = none) (w : World) :
    (Go.Op.equalIn (d + 1) t (.slice p l c) (.slice q l' c')).run P w = .ok (p.isNone && q.isNone) w := by
  cases p with
  | none => simp [Go.Op.equalIn, run_underlying hu]
  | some p =>
    have : q = none := by simpa using h
    subst this
    simp [Go.Op.equalIn, run_underlying hu]
theorem run_eqPtr {t e : TypeId} (hu : P.underlying t = some (.pointer e)) (neg : Bool) (x y : Operand) (p q : Option Addr) (h : p = none ∨ q = none) (w : World) :
    (do Go.eqGuard (bif neg then .neq else .eql) t x y (.pointer p) (.pointer q); let v ← Go.binOp (bif neg then .neq else .eql) t (.pointer p) (.pointer q); Pure.pure (Next.value v) : Sem Next).run P w =
      .ok (.value (.bool (bif neg then !(p.isNone && q.isNone) else (p.isNone && q.isNone)))) w := by
  have k := eqIn_ptr hu 9999 p q h w
  cases neg
  · have e : (Go.binOp .eql t (.pointer p) (.pointer q)).run P w = .ok (.bool (p.isNone && q.isNone)) w := by
      simp only [Go.binOp, Go.Op.equal, Go.Op.maxDepth, Sem.run_bind, k, Go.Result.andThen_ok, Sem.run_pure]
    simp only [cond_false, Go.eqGuard, Sem.run_bind]
    simp [e]
  · have e : (Go.binOp .neq t (.pointer p) (.pointer q)).run P w = .ok (.bool !(p.isNone && q.isNone)) w := by
      simp only [Go.binOp, Go.Op.equal, Go.Op.maxDepth, Sem.run_bind, k, Go.Result.andThen_ok, Sem.run_pure]
    simp only [cond_true, Go.eqGuard, Sem.run_bind]
    simp [e]
theorem run_eqSlc {t e : TypeId} (hu : P.underlying t = some (.slice e)) (neg : Bool) (x y : Operand) (p q : Option Addr) (l c l' c' : Nat) (h : p = none ∨ q = none) (w : World) :
    (do Go.eqGuard (bif neg then .neq else .eql) t x y (.slice p l c) (.slice q l' c'); let v ← Go.binOp (bif neg then .neq else .eql) t (.slice p l c) (.slice q l' c'); Pure.pure (Next.value v) : Sem Next).run P w =
      .ok (.value (.bool (bif neg then !(p.isNone && q.isNone) else (p.isNone && q.isNone)))) w := by
  have k := eqIn_slc hu 9999 p q l c l' c' h w
  cases neg
  · have e : (Go.binOp .eql t (.slice p l c) (.slice q l' c')).run P w = .ok (.bool (p.isNone && q.isNone)) w := by
      simp only [Go.binOp, Go.Op.equal, Go.Op.maxDepth, Sem.run_bind, k, Go.Result.andThen_ok, Sem.run_pure]
    simp only [cond_false, Go.eqGuard, Sem.run_bind]
    simp [e]
  · have e : (Go.binOp .neq t (.slice p l c) (.slice q l' c')).run P w = .ok (.bool !(p.isNone && q.isNone)) w := by
      simp only [Go.binOp, Go.Op.equal, Go.Op.maxDepth, Sem.run_bind, k, Go.Result.andThen_ok, Sem.run_pure]
    simp only [cond_true, Go.eqGuard, Sem.run_bind]
    simp [e]
theorem wPeq (hE : EnR ρ π wr en a) {x y : Operand} {x' y' : Opd} {neg : Bool} {t e : TypeId} {r : S} (hu : P.underlying t = some (.pointer e)) (hx : opd wr x = some x') (hy : opd wr y = some y')
    (h : pPeq neg x' y' en = some r) : NOk P ρ π (do Go.eqGuard (bif neg then .neq else .eql) t x y (a.eval x) (a.eval y); let v ← Go.binOp (bif neg then .neq else .eql) t (a.eval x) (a.eval y); Pure.pure (.value v)) r := by
  unfold pPeq at h
  split at h
  · rename_i p hp
    split at h
    · rename_i q hq
      have h1 := opd_okV hE hx hp
      have h2 := opd_okV hE hy hq
      have key : ∃ p' q', a.eval x = .pointer p' ∧ a.eval y = .pointer q' ∧ p'.isNone = p.isNone ∧ q'.isNone = q.isNone := by
        cases p with
        | none => cases q with
          | none => exact ⟨_, _, h1.inv_p0, h2.inv_p0, rfl, rfl⟩
          | some q => obtain ⟨b, o⟩ := q; obtain ⟨I, _, e2⟩ := h2.inv_p; exact ⟨_, _, h1.inv_p0, e2, rfl, rfl⟩
        | some p =>
          obtain ⟨b, o⟩ := p
          obtain ⟨I, _, e1⟩ := h1.inv_p
          cases q with
          | none => exact ⟨_, _, e1, h2.inv_p0, rfl, rfl⟩
          | some q => obtain ⟨b, o⟩ := q; obtain ⟨I, _, e2⟩ := h2.inv_p; exact ⟨_, _, e1, e2, rfl, rfl⟩
      obtain ⟨p', q', e1, e2, k1, k2⟩ := key
      rw [e1, e2]
      have hn : p' = none ∨ q' = none := by
        cases p' with
        | none => exact .inl rfl
        | some p' => cases q' with
          | none => exact .inr rfl
          | some q' =>
            cases p with
            | none => simp at k1
            | some p => cases q with
              | none => simp at k2
              | some q => cases h
      intro w
      refine ⟨_, w, run_eqPtr hu neg x y p' q' hn w, ⟨rfl, rfl, rfl⟩, ?_⟩
      rw [k1, k2]
      have e : r = .v (.b (bif neg then !(p.isNone && q.isNone) else (p.isNone && q.isNone))) := by
        cases p <;> cases q <;> cases neg <;> first | (cases h; rfl) | cases h
      rw [e]; exact .v (.b _)
    · cases h
  · cases h
theorem wSnl (hE : EnR ρ π wr en a) {x y : Operand} {x' y' : Opd} {neg : Bool} {t e : TypeId} {r : S} (hu : P.underlying t = some (.slice e)) (hx : opd wr x = some x') (hy : opd wr y = some y')
    (h : pSnl neg x' y' en = some r) : NOk P ρ π (do Go.eqGuard (bif neg then .neq else .eql) t x y (a.eval x) (a.eval y); let v ← Go.binOp (bif neg then .neq else .eql) t (a.eval x) (a.eval y); Pure.pure (.value v)) r := by
  unfold pSnl at h
  split at h
  · rename_i p l1 c1 hp
    split at h
    · rename_i q l2 c2 hq
      have h1 := opd_okV hE hx hp
      have h2 := opd_okV hE hy hq
      have key : ∃ p' q' l c l' c', a.eval x = .slice p' l c ∧ a.eval y = .slice q' l' c' ∧ p'.isNone = p.isNone ∧ q'.isNone = q.isNone := by
        cases p with
        | none => cases q with
          | none => exact ⟨_, _, _, _, _, _, h1.inv_s0, h2.inv_s0, rfl, rfl⟩
          | some q => obtain ⟨b, o⟩ := q; obtain ⟨I, _, _, _, e2⟩ := h2.inv_s; exact ⟨_, _, _, _, _, _, h1.inv_s0, e2, rfl, rfl⟩
        | some p =>
          obtain ⟨b, o⟩ := p
          obtain ⟨I, _, _, _, e1⟩ := h1.inv_s
          cases q with
          | none => exact ⟨_, _, _, _, _, _, e1, h2.inv_s0, rfl, rfl⟩
          | some q => obtain ⟨b, o⟩ := q; obtain ⟨I, _, _, _, e2⟩ := h2.inv_s; exact ⟨_, _, _, _, _, _, e1, e2, rfl, rfl⟩
      obtain ⟨p', q', l, c, l', c', e1, e2, k1, k2⟩ := key
      rw [e1, e2]
      have hn : p' = none ∨ q' = none := by
        cases p' with
        | none => exact .inl rfl
        | some p' => cases q' with
          | none => exact .inr rfl
          | some q' =>
            cases p with
            | none => simp at k1
            | some p => cases q with
              | none => simp at k2
              | some q => cases h
      intro w
      refine ⟨_, w, run_eqSlc hu neg x y p' q' l c l' c' hn w, ⟨rfl, rfl, rfl⟩, ?_⟩
      rw [k1, k2]
      have e : r = .v (.b (bif neg then !(p.isNone && q.isNone) else (p.isNone && q.isNone))) := by
        cases p <;> cases q <;> cases neg <;> first | (cases h; rfl) | cases h
      rw [e]; exact .v (.b _)
    · cases h
  · cases h
/-- Operands of which an operation of numbers knows the outcome are no interface values and no structs. -/
theorem guard_plain {o : BinOp} {x y v : V} {c d : Value} (hx : VR ρ x c) (hy : VR ρ y d) (h : binV o x y = some v) (t : TypeId) (x1 y1 : Operand) (w : World) : (Go.eqGuard o t x1 y1 c d).run P w = .ok () w := by
  unfold binV at h
  split at h
  · rw [hx.inv_i, hy.inv_i]; cases o <;> rfl
  · obtain ⟨_, rfl, _⟩ := hx.inv_f
    obtain ⟨_, rfl, _⟩ := hy.inv_f
    cases o <;> rfl
  · obtain ⟨_, _, rfl, _⟩ := hx.inv_c
    obtain ⟨_, _, rfl, _⟩ := hy.inv_c
    cases o <;> rfl
  · cases h
theorem wBin (hE : EnR ρ π wr en a) {x y : Operand} {x' y' : Opd} {o : BinOp} (t : TypeId) {r : S} (hx : opd wr x = some x') (hy : opd wr y = some y')
    (h : pBin o x' y' en = some r) : NOk P ρ π (do Go.eqGuard o t x y (a.eval x) (a.eval y); let v ← Go.binOp o t (a.eval x) (a.eval y); Pure.pure (.value v)) r := by
  unfold pBin at h
  obtain ⟨u, hu, h⟩ := evV_match h
  obtain ⟨v, hv, h⟩ := evV_match h
  obtain ⟨z, hz, rfl⟩ := sv_some h
  have h1 := opd_okV hE hx hu
  have h2 := opd_okV hE hy hv
  intro w
  obtain ⟨c, w', e1, e2, e3⟩ := binV_ok (P := P) (π := π) t h1 h2 hz w
  exact ⟨c, w', by simp [guard_plain h1 h2 hz t x y w, e1], e2, e3⟩
theorem wEqs (hT : TabOk P tt ft) (hE : EnR ρ π wr en a) {x y : Operand} {x' y' : Opd} {neg : Bool} {t : TypeId} {sh : Sh} {r : S} (hs : eqSh P tt 9 t = some sh) (hg : P.eqGuardType P.depth t = false) (hagg : ∀ u v b, sh.eq u v = some b → ∃ xs ys, u = .agg xs ∧ v = .agg ys)
    (hx : opd wr x = some x') (hy : opd wr y = some y')
    (h : pEqs neg sh x' y' en = some r) : NOk P ρ π (do Go.eqGuard (bif neg then .neq else .eql) t x y (a.eval x) (a.eval y); let v ← Go.binOp (bif neg then .neq else .eql) t (a.eval x) (a.eval y); Pure.pure (.value v)) r := by
  unfold pEqs at h
  obtain ⟨u, hu, h⟩ := evV_match h
  obtain ⟨v, hv, h⟩ := evV_match h
  cases hb : sh.eq u v with
  | none => rw [hb] at h; cases h
  | some b =>
    rw [hb] at h; cases h
    obtain ⟨xs, ys, rfl, rfl⟩ := hagg u v b hb
    have h1 := opd_okV hE hx hu
    have h2 := opd_okV hE hy hv
    intro w
    have hq := eqSh_ok hT 9 10000 (by decide) t sh _ _ _ _ b w hs h1 h2 hb
    obtain ⟨cs, _, e1⟩ := h1.inv_agg
    obtain ⟨ds, _, e2⟩ := h2.inv_agg
    rw [e1, e2] at hq ⊢
    refine ⟨.bool (bif neg then !b else b), w, ?_, ⟨rfl, rfl, rfl⟩, .v (.b _)⟩
    cases neg
    · simp only [cond_false, Sem.run_bind, Go.run_eqGuard_agg _ _ _ _ _ _ _ hg, Go.Result.andThen_ok, Go.run_eql_struct, hq, Sem.run_pure]
    · simp only [cond_true, Sem.run_bind, Go.run_eqGuard_agg _ _ _ _ _ _ _ hg, Go.Result.andThen_ok, Go.run_neq_struct, hq, Sem.run_pure]
theorem eqsP_inv {neg : Bool} {o : Option Sh} {x y : Opd} {f : PSem} (h : eqsP neg o x y = some (.p f)) : ∃ sh, o = some sh ∧ f = pEqs neg sh x y := by
  cases o with
  | none => cases h
  | some sh => simp only [eqsP, Option.some.injEq, Sm.p.injEq] at h; exact ⟨sh, rfl, h.symm⟩
theorem eqSh_agg {d : Nat} {t : TypeId} {sh : Sh} (hs : eqSh P tt (d + 1) t = some sh) (ht : (∃ fs, und tt t = some (.struct fs)) ∨ ∃ n e, und tt t = some (.array n e)) :
    ∀ u v b, sh.eq u v = some b → ∃ xs ys, u = .agg xs ∧ v = .agg ys := by
  intro u v b h
  have : ∃ ps, sh = .node ps := by
    rcases ht with ⟨fs, hu⟩ | ⟨n, e, hu⟩
    · simp only [eqSh, hu] at hs
      cases hp : P.stoodInHeld t with
      | true => rw [hp] at hs; cases hs
      | false =>
        rw [hp, cond_false] at hs
        unfold mapSh at hs
        split at hs
        · cases hs; exact ⟨_, rfl⟩
        · cases hs
    · simp only [eqSh, hu] at hs
      split at hs
      · split at hs
        · cases hs; exact ⟨_, rfl⟩
        · cases hs
      · cases hs
  obtain ⟨ps, rfl⟩ := this
  obtain ⟨xs, ys, e1, e2, _⟩ := Sh.node_some h
  exact ⟨xs, ys, e1, e2⟩
theorem wEq (hT : TabOk P tt ft) (hE : EnR ρ π wr en a) {x y : Operand} {x' y' : Opd} {neg : Bool} {t : TypeId} {f : PSem} {r : S}
    (hx : opd wr x = some x') (hy : opd wr y = some y') (hc : compileEq P tt neg t x' y' = some (.p f))
    (h : f en = some r) : NOk P ρ π (do Go.eqGuard (bif neg then .neq else .eql) t x y (a.eval x) (a.eval y); let v ← Go.binOp (bif neg then .neq else .eql) t (a.eval x) (a.eval y); Pure.pure (.value v)) r := by
  unfold compileEq at hc
  split at hc
  · rename_i hu; cases hc; exact wBeq hE (und_ok hT hu) hx hy h
  · rename_i hu; cases hc; exact wBin hE t hx hy h
  · rename_i hu; cases hc; exact wBin hE t hx hy h
  · rename_i hu; cases hc; exact wBin hE t hx hy h
  · rename_i hu; cases hc; exact wPeq hE (und_ok hT hu) hx hy h
  · rename_i hu; cases hc; exact wSnl hE (und_ok hT hu) hx hy h
  · rename_i fs hu
    cases hg : P.eqGuardType P.depth t with
    | true => rw [hg] at hc; cases hc
    | false =>
      rw [hg, cond_false] at hc
      obtain ⟨sh, hs, rfl⟩ := eqsP_inv hc
      exact wEqs hT hE hs hg (eqSh_agg hs (.inl ⟨fs, hu⟩)) hx hy h
  · rename_i n e hu
    cases hg : P.eqGuardType P.depth t with
    | true => rw [hg] at hc; cases hc
    | false =>
      rw [hg, cond_false] at hc
      obtain ⟨sh, hs, rfl⟩ := eqsP_inv hc
      exact wEqs hT hE hs hg (eqSh_agg hs (.inr ⟨n, e, hu⟩)) hx hy h
  · cases hc
theorem cBin_ok (hT : TabOk P tt ft) (hE : EnR ρ π wr en a) {x y : Operand} {o : BinOp} {t : TypeId} {f : PSem} {r : S} (hc : cBin P tt o t (opd wr x) (opd wr y) = some (.p f))
    (h : f en = some r) : NOk P ρ π (do Go.eqGuard o t x y (a.eval x) (a.eval y); let v ← Go.binOp o t (a.eval x) (a.eval y); Pure.pure (.value v)) r := by
  unfold cBin at hc
  cases hx : opd wr x with
  | none => rw [hx] at hc; cases hc
  | some x' =>
    cases hy : opd wr y with
    | none => rw [hx, hy] at hc; cases hc
    | some y' =>
      rw [hx, hy] at hc
      simp only at hc
      split at hc
      · exact wEq (neg := false) hT hE hx hy hc h
      · exact wEq (neg := true) hT hE hx hy hc h
      · cases hc; exact wBin hE t hx hy h

theorem wUn (hE : EnR ρ π wr en a) {x : Operand} {x' : Opd} {o : UnOp} {r : S} (hx : opd wr x = some x') (h : pUn o x' en = some r) :
    NOk P ρ π (do let v ← Go.Op.unary o (a.eval x); Pure.pure (.value v)) r := by
  unfold pUn at h
  obtain ⟨u, hu, h⟩ := evV_match h
  obtain ⟨z, hz, rfl⟩ := sv_some h
  exact (unV_ok (opd_okV hE hx hu) hz).next
theorem cConv_ok (hT : TabOk P tt ft) (hE : EnR ρ π wr en a) {x : Operand} {s t : TypeId} {f : PSem} {r : S} (hc : cConv (und tt s) (und tt t) (opd wr x) = some (.p f)) (h : f en = some r) :
    NOk P ρ π (do let v ← Go.convert s t (a.eval x); Pure.pure (.value v)) r := by
  unfold cConv at hc
  split at hc
  · rename_i k1 hs
    split at hc
    · rename_i k ht
      obtain ⟨y, hy, rfl⟩ := c1_inv hc
      unfold pCvi at h
      split at h
      · rename_i k2 n he
        cases h
        rw [(opd_okV hE hy he).inv_i, wrapF_eq]
        refine VOk.next (fun w => ⟨_, w, ?_, ⟨rfl, rfl, rfl⟩, .v (.i _ _)⟩)
        simp only [Go.convert, Sem.run_bind, run_underlying (und_ok hT hs), run_underlying (und_ok hT ht), Go.Result.andThen_ok]
        rfl
      · cases h
    · rename_i ht
      obtain ⟨y, hy, rfl⟩ := c1_inv hc
      unfold pCvf at h
      split at h
      · rename_i k2 n he
        cases h
        rw [(opd_okV hE hy he).inv_i]
        refine VOk.next (fun w => ⟨.float .f64 (FloatKind.f64.nearest n), w, ?_, ⟨rfl, rfl, rfl⟩, ?_⟩)
        · simp only [Go.convert, Sem.run_bind, run_underlying (und_ok hT hs), run_underlying (und_ok hT ht), Go.Result.andThen_ok]
          rfl
        · refine .v (VR.of_f ?_)
          rw [← fofint_eq]
          have e : FloatKind.f64.nearest n = Ieee.double.write (.number (n < 0) n.natAbs 0) := rfl
          rw [e, canon_of_num (write_num _ rfl)]
      · cases h
    · cases hc
  · rename_i hs
    split at hc
    · rename_i ht
      obtain ⟨y, hy, rfl⟩ := c1_inv hc
      unfold pIdf at h
      split at h
      · rename_i w0 he
        cases h
        obtain ⟨u, e, hu⟩ := (opd_okV hE hy he).inv_f
        rw [e]
        refine VOk.next (fun w => ⟨.float .f64 u, w, ?_, ⟨rfl, rfl, rfl⟩, .v (VR.of_f hu)⟩)
        simp only [Go.convert, Sem.run_bind, run_underlying (und_ok hT hs), run_underlying (und_ok hT ht), Go.Result.andThen_ok]
        rfl
      · cases h
    · cases hc
  · rename_i hs
    split at hc
    · rename_i ht
      obtain ⟨y, hy, rfl⟩ := c1_inv hc
      unfold pIdc at h
      split at h
      · rename_i w0 w1 he
        cases h
        obtain ⟨u, v, e, hu, hv⟩ := (opd_okV hE hy he).inv_c
        subst hu hv
        rw [e]
        refine VOk.next (fun w => ⟨.complex .f64 u v, w, ?_, ⟨rfl, rfl, rfl⟩, .v (.c _ _)⟩)
        simp only [Go.convert, Sem.run_bind, run_underlying (und_ok hT hs), run_underlying (und_ok hT ht), Go.Result.andThen_ok]
        rfl
      · cases h
    · cases hc
  · cases hc
theorem cIfc_ok (hT : TabOk P tt ft) (hE : EnR ρ π wr en a) {x : Operand} {t : TypeId} {f : PSem} {r : S} (hc : cIfc (und tt t) t (opd wr x) = some (.p f)) (h : f en = some r) :
    NOk P ρ π (do let v ← Go.Instr.makeInterface t (a.eval x); Pure.pure (.value v)) r := by
  unfold cIfc at hc
  split at hc
  · cases hc
  · rename_i d hni hd
    obtain ⟨y, hy, rfl⟩ := c1_inv hc
    unfold pIfc at h
    obtain ⟨v, hv, h⟩ := evV_match h
    cases h
    refine VOk.next (fun w => ⟨.iface t (a.eval x), w, ?_, ⟨rfl, rfl, rfl⟩, .v (.ifc (opd_okV hE hy hv))⟩)
    simp only [Go.Instr.makeInterface, Sem.run_bind, run_underlying (und_ok hT hd), Go.Result.andThen_ok]
    rfl
  · cases hc
theorem toArr {α β : Type} (g : α → β) (xs : Array α) : (List.map g xs.toList).toArray = xs.map g := Array.ext' (by simp)
theorem cMkf_ok (hE : EnR ρ π wr en a) {fn : Go.Fn} {first caps : Array Operand} {f : PSem} {r : S} (hc : cMkf fn (opdL wr first.toList) (opdL wr caps.toList) = some (.p f)) (h : f en = some r) :
    NOk P ρ π (do let v ← Go.Instr.makeFunc fn (first.map a.eval) (caps.map a.eval); Pure.pure (.value v)) r := by
  unfold cMkf at hc
  split at hc
  · rename_i g
    split at hc
    · rename_i fs hf
      split at hc
      · rename_i cs hcs
        cases hc
        unfold pMkf at h
        split at h
        · rename_i us hu
          split at h
          · rename_i vs hv
            cases h
            have e1 := opdL_ok hE hf hu
            have e2 := opdL_ok hE hcs hv
            refine NOk.pure (.v ?_)
            have := VR.fn (f := g) e1 e2
            rwa [toArr, toArr] at this
          · cases h
        · cases h
      · cases hc
    · cases hc
  · cases hc

theorem splice_fold (off : Nat) : ∀ (l : List Value) (k : Nat) (cs : List Value), off + k + l.length ≤ cs.length →
    ((l.zipIdx k).foldl (fun (cs : Array Value) (x : Value × Nat) => cs.setIfInBounds (off + x.2) x.1) cs.toArray) = (cs.take (off + k) ++ (l ++ cs.drop (off + k + l.length))).toArray
  | [], k, cs, h => by simp
  | c :: l, k, cs, h => by
    simp only [List.length_cons] at h
    rw [List.zipIdx_cons, List.foldl_cons]
    have e : cs.toArray.setIfInBounds (off + k) c = (cs.set (off + k) c).toArray := by simp
    rw [e, splice_fold off l (k + 1) (cs.set (off + k) c) (by simp; omega)]
    congr 1
    have h1 : (cs.set (off + k) c).take (off + (k + 1)) = cs.take (off + k) ++ [c] := by
      rw [← Nat.add_assoc, List.take_add_one, List.getElem?_set_self (by omega), List.take_set_of_le (Nat.le_refl _)]; rfl
    have h2 : (cs.set (off + k) c).drop (off + (k + 1) + l.length) = cs.drop (off + k + (l.length + 1)) := by
      rw [List.drop_set_of_lt (by omega)]; congr 1; omega
    rw [h1, h2]
    simp [Nat.add_assoc]

theorem fill_step {place : Nat → Option (Nat × Nat)} {i off n : Nat} {v : Value} {cc : List Value} {rest : List (Nat × Value)} (hp : place i = some (off, n)) (hn : v.cells.size = n) (hle : off + n ≤ cc.length) :
    Go.Instr.fill place cc.toArray ((i, v) :: rest) = Go.Instr.fill place (cc.take off ++ (v.cells.toList ++ cc.drop (off + n))).toArray rest := by
  have h1 : (v.cells.size != n || decide (off + v.cells.size > cc.toArray.size)) = false := by
    simp [hn]; exact hle
  have h2 : v.cells.zipIdx.foldl (fun (cs : Array Value) (x : Value × Nat) => cs.setIfInBounds (off + x.2) x.1) cc.toArray = (cc.take off ++ (v.cells.toList ++ cc.drop (off + n))).toArray := by
    have := splice_fold off v.cells.toList 0 cc (by simp [hn]; exact hle)
    rw [← Array.foldl_toList, Array.toList_zipIdx, this]
    simp [hn]
  simp only [Go.Instr.fill, hp]
  rw [← h2]
  rw [if_neg]
  · simp [hn]; omega
theorem fill_ok (hE : EnR ρ π wr en a) {place place' : Nat → Option (Nat × Nat)} (hpl : ∀ i q, place' i = some q → place i = some q) :
    ∀ (ps : List (Nat × Operand)) (os : List (Nat × Nat × Opd)) (vs : List (Nat × Nat × V)) (zs cs : List V) (zc : List Value), opdP wr place' ps = some os → evP en os = some vs → VRs ρ zs zc →
      fillL zs vs = some cs → ∃ cc, Go.Instr.fill place zc.toArray (ps.map fun x => (x.1, a.eval x.2)) = some cc.toArray ∧ VRs ρ cs cc := by
  intro ps
  induction ps with
  | nil =>
    intro os vs zs cs zc h1 h2 h3 h4
    simp only [opdP, Option.some.injEq] at h1; subst h1
    rw [evP_nil, Option.some.injEq] at h2; subst h2
    rw [fillL_nil, Option.some.injEq] at h4; subst h4
    exact ⟨zc, rfl, h3⟩
  | cons p ps ih =>
    obtain ⟨i, x⟩ := p
    intro os vs zs cs zc h1 h2 h3 h4
    simp only [opdP] at h1
    cases hp : place' i with
    | none => rw [hp] at h1; cases h1
    | some q =>
      obtain ⟨off, n⟩ := q
      rw [hp] at h1
      simp only at h1
      cases hx : opd wr x with
      | none => rw [hx] at h1; cases h1
      | some y =>
        rw [hx] at h1
        simp only [consO_map, Option.map_eq_some_iff] at h1
        obtain ⟨os', ho, rfl⟩ := h1
        rw [evP_cons] at h2
        cases hv : evV en y with
        | none => rw [hv] at h2; cases h2
        | some v =>
          rw [hv] at h2
          simp only [consO_map, Option.map_eq_some_iff] at h2
          obtain ⟨vs', hvs, rfl⟩ := h2
          rw [fillL_cons, lenIs_eq] at h4
          have hr := (opd_okV hE hx hv).cells
          have hl := hr.length
          by_cases hn : v.cells.length = n
          · simp only [hn, decide_true, spliceX_eq] at h4
            have hz := h3.length
            by_cases hle : off + n ≤ zs.length
            · rw [if_pos hle] at h4
              simp only at h4
              obtain ⟨cc, e1, e2⟩ := ih os' vs' _ cs _ ho hvs ((h3.take off).append (hr.append (h3.drop (off + n)))) h4
              refine ⟨cc, ?_, e2⟩
              rw [List.map_cons, fill_step (hpl i _ hp) (by show (a.eval x).cells.size = n; rw [← Array.length_toList]; omega) (by omega)]
              exact e1
            · rw [if_neg hle] at h4; cases h4
          · simp only [hn, decide_false] at h4; cases h4
theorem tyZero_ok (hT : TabOk P tt ft) {t : TypeId} {z : List V} (h : tyZero tt t = some z) : ∃ i v, P.info? t = some i ∧ i.zero = some v ∧ VRs ρ z v.cells.toList := by
  unfold tyZero at h
  cases hi : tt.get t with
  | none => rw [hi] at h; cases h
  | some i =>
    rw [hi] at h
    simp only at h
    cases hz : i.zero with
    | none => rw [hz] at h; cases h
    | some v => rw [hz] at h; exact ⟨i, v, hT.ty t i hi, hz, constL_ok h⟩
theorem run_zero {t : TypeId} {i : TypeInfo} {v : Value} (h : P.info? t = some i) (hz : i.zero = some v) (w : World) : (Go.zeroValue t).run P w = .ok v w := by
  simp only [Go.zeroValue, Sem.run_bind, run_typeInfo h, Go.Result.andThen_ok, hz, Sem.run_pure]
theorem tyPlaces_ok (hT : TabOk P tt ft) : ∀ {fs : List Go.Field} {pl : List (Nat × Nat)}, tyPlaces tt fs = some pl →
    ∀ w, ((fs.mapM fun f => (do let n ← Go.sizeOf f.type; Pure.pure (f.offset, n) : Sem (Nat × Nat))).run P w) = .ok pl w
  | [], pl, h, w => by simp only [tyPlaces, Option.some.injEq] at h; subst h; rfl
  | f :: fs, pl, h, w => by
    simp only [tyPlaces] at h
    cases hs : tySize tt f.type with
    | none => rw [hs] at h; cases h
    | some n =>
      rw [hs] at h
      simp only [consO_map, Option.map_eq_some_iff] at h
      obtain ⟨pl', hp, rfl⟩ := h
      obtain ⟨i, hi, hn⟩ := tySize_ok hT hs
      have := tyPlaces_ok hT hp w
      simp only [List.mapM_cons, Sem.run_bind, run_sizeOf hi, Go.Result.andThen_ok, Sem.run_pure, this, hn]
theorem nth_toArray {α : Type} (l : List α) (i : Nat) : nth l i = l.toArray[i]? := by rw [nth_eq]; simp
theorem cBuild_ok (hT : TabOk P tt ft) (hE : EnR ρ π wr en a) {t : TypeId} {ps : Array (Nat × Operand)} {f : PSem} {r : S} (hc : cBuild tt wr t ps.toList = some (.p f)) (h : f en = some r) :
    NOk P ρ π (do let v ← Go.Instr.build t (ps.map fun x => (x.1, a.eval x.2)); Pure.pure (.value v)) r := by
  unfold cBuild at hc
  cases hz : tyZero tt t with
  | none => rw [hz] at hc; cases hc
  | some z =>
    rw [hz] at hc
    obtain ⟨i, v, hi, hv, hzr⟩ := tyZero_ok (ρ := ρ) hT hz
    simp only at hc
    split at hc
    · rename_i fs hu
      cases hpl : tyPlaces tt fs.toList with
      | none => rw [hpl] at hc; cases hc
      | some pl =>
        rw [hpl] at hc
        unfold bldP at hc
        simp only at hc
        split at hc
        · rename_i os ho
          cases hc
          unfold pBld at h
          split at h
          · rename_i vs hvs
            split at h
            · rename_i cs hcs
              cases h
              obtain ⟨cc, e1, e2⟩ := fill_ok hE (place := fun i => pl.toArray[i]?) (fun i q hq => by rw [← nth_toArray]; exact hq) _ _ _ _ _ _ ho hvs hzr hcs
              refine VOk.next (fun w => ⟨.agg cc.toArray, w, ?_, ⟨rfl, rfl, rfl⟩, .v (.agg e2)⟩)
              have hm : (fs.mapM fun f => (do let n ← Go.sizeOf f.type; Pure.pure (f.offset, n) : Sem (Nat × Nat))).run P w = .ok pl.toArray w := by
                have := tyPlaces_ok hT hpl w
                rw [Array.mapM_eq_mapM_toList, Sem.run_map, this]; rfl
              simp only [Go.Instr.build, Sem.run_bind, run_zero hi hv, run_underlying (und_ok hT hu), Go.Result.andThen_ok, hm, Array.toList_map]
              have : v.cells.toList.toArray = v.cells := by simp
              rw [← this, e1]
              rfl
            · cases h
          · cases h
        · cases hc
    · rename_i len e hu
      cases hpl : tySize tt e with
      | none => rw [hpl] at hc; cases hc
      | some n =>
        rw [hpl] at hc
        unfold bldP at hc
        simp only at hc
        split at hc
        · rename_i os ho
          cases hc
          obtain ⟨ie, hie, hn⟩ := tySize_ok hT hpl
          unfold pBld at h
          split at h
          · rename_i vs hvs
            split at h
            · rename_i cs hcs
              cases h
              obtain ⟨cc, e1, e2⟩ := fill_ok hE (place := fun i => some (i * n, n)) (fun i q hq => by simpa using hq) _ _ _ _ _ _ ho hvs hzr hcs
              refine VOk.next (fun w => ⟨.agg cc.toArray, w, ?_, ⟨rfl, rfl, rfl⟩, .v (.agg e2)⟩)
              simp only [Go.Instr.build, Sem.run_bind, run_zero hi hv, run_underlying (und_ok hT hu), Go.Result.andThen_ok, run_sizeOf hie, Array.toList_map, hn]
              have : v.cells.toList.toArray = v.cells := by simp
              rw [← this, e1]
              rfl
            · cases h
          · cases h
        · cases hc
    · cases hc

/-! Bounds, addresses, parts. -/
theorem bound_ok {v : V} {c : Value} (hv : VR ρ v c) {x : Nat} (y : Nat) (hx : idx? v = some x) (hy : x ≤ y) (code : Go.BoundsCode) (w : World) : (Go.Instr.sliceBound c y code).run P w = .ok x w := by
  obtain ⟨k, rfl⟩ := idx_some hx
  rw [hv.inv_i]
  exact Go.run_sliceBound w k x y code (by omega) (by omega)
theorem bound_some {o : Option V} {y d n : Nat} (h : bound o y d = some n) : (o = none ∧ n = d) ∨ (∃ v, o = some v ∧ idx? v = some n ∧ n ≤ y) := by
  unfold bound at h
  split at h
  · cases h; exact .inl ⟨rfl, rfl⟩
  · rename_i v
    split at h
    · rename_i m hm
      rw [ble_dec] at h
      by_cases hle : m ≤ y
      · simp only [hle, decide_true, cond_true, Option.some.injEq] at h; subst h
        exact .inr ⟨v, rfl, hm, hle⟩
      · simp [hle] at h
    · cases h
theorem evO_ok (hE : EnR ρ π wr en a) {o : Option Operand} {o' : Option Opd} {v : Option V} (h : opdO wr o = some o') (hv : evO en o' = some v) :
    (o = none ∧ v = none) ∨ (∃ x u, o = some x ∧ v = some u ∧ VR ρ u (a.eval x)) := by
  cases o with
  | none =>
    simp only [opdO, Option.some.injEq] at h; subst h
    simp only [evO, Option.some.injEq] at hv; subst hv
    exact .inl ⟨rfl, rfl⟩
  | some x =>
    simp only [opdO] at h
    cases hx : opd wr x with
    | none => rw [hx] at h; cases h
    | some y =>
      rw [hx] at h; cases h
      simp only [evO] at hv
      cases hu : evV en y with
      | none => rw [hu] at hv; cases hv
      | some u => rw [hu] at hv; cases hv; exact .inr ⟨x, u, rfl, rfl, opd_okV hE hx hu⟩
theorem bounds_ok (hE : EnR ρ π wr en a) {lo hi mx : Option Operand} {lo' hi' mx' : Option Opd} (h1 : opdO wr lo = some lo') (h2 : opdO wr hi = some hi') (h3 : opdO wr mx = some mx')
    {len cap cap' l h m : Nat} (hb : bounds3 en len cap lo' hi' mx' = some (l, h, m)) (hcap : cap ≤ cap') (b : Bool) (w : World) :
    (Go.Instr.sliceBounds b len cap' (lo.map a.eval) (hi.map a.eval) (mx.map a.eval)).run P w = .ok (l, h, if mx.isSome then m else cap') w ∧ (mx = none → m = cap) := by
  unfold bounds3 at hb
  cases e1 : evO en lo' with
  | none => rw [e1] at hb; cases hb
  | some vl =>
    cases e2 : evO en hi' with
    | none => rw [e1, e2] at hb; cases hb
    | some vh =>
      cases e3 : evO en mx' with
      | none => rw [e1, e2, e3] at hb; cases hb
      | some vm =>
        rw [e1, e2, e3] at hb
        simp only [bounds] at hb
        cases em : bound vm cap cap with
        | none => rw [em] at hb; cases hb
        | some m0 =>
          rw [em] at hb
          simp only at hb
          have k1 := evO_ok hE h1 e1
          have k2 := evO_ok hE h2 e2
          have k3 := evO_ok hE h3 e3
          -- the high bound
          have step : ∀ {m1 : Nat} {x : Option V} {h0 : Nat}, bound x m1 len = some h0 → ∀ m2, m1 ≤ m2 → (x = none ∧ h0 = len) ∨ (∃ v, x = some v ∧ idx? v = some h0 ∧ h0 ≤ m2) := fun hh m2 hm => by
            rcases bound_some hh with e | ⟨v, e, hi, hle⟩
            · exact .inl e
            · exact .inr ⟨v, e, hi, Nat.le_trans hle hm⟩
          have low : ∀ {h0 l0 : Nat}, bound vl h0 0 = some l0 → ∀ (code : Go.BoundsCode) (K : Nat → Sem (Nat × Nat × Nat)), ((match lo.map a.eval with | some v => (do let l ← Go.Instr.sliceBound v h0 code; K l) | none => (do let l ← Pure.pure 0; K l) : Sem (Nat × Nat × Nat))).run P w = (K l0).run P w := fun hl code K => by
            rcases k1 with ⟨rfl, rfl⟩ | ⟨x, u, rfl, rfl, hu⟩
            · rcases bound_some hl with ⟨_, rfl⟩ | ⟨v, e, _⟩
              · rfl
              · cases e
            · rcases bound_some hl with ⟨e, _⟩ | ⟨v, e, hi, hle⟩
              · cases e
              · cases e
                simp only [Option.map_some, Sem.run_bind, bound_ok hu _ hi hle code w, Go.Result.andThen_ok]
          cases eh : highB vh vm m0 len with
          | none => rw [eh] at hb; cases hb
          | some h0 =>
            rw [eh] at hb
            simp only at hb
            cases el : bound vl h0 0 with
            | none => rw [el] at hb; cases hb
            | some l0 =>
              rw [el] at hb
              cases hb
              rcases k3 with ⟨rfl, rfl⟩ | ⟨x3, u3, rfl, rfl, hu3⟩
              · -- no max
                have e0 : m = cap := by
                  rcases bound_some em with ⟨_, e⟩ | ⟨v, e, _⟩
                  · exact e
                  · cases e
                refine ⟨?_, fun _ => e0⟩
                have eh' : bound vh m len = some h := by cases vh <;> exact eh
                subst e0
                rcases k2 with ⟨rfl, rfl⟩ | ⟨x2, u2, rfl, rfl, hu2⟩
                · rcases bound_some eh' with ⟨_, rfl⟩ | ⟨v, e, _⟩
                  · have := low el .sliceB (fun l => Pure.pure (l, h, cap'))
                    simp only [Go.Instr.sliceBounds, Option.map_none, Sem.run_bind, Sem.run_pure, Go.Result.andThen_ok, Option.isSome_none, Bool.false_eq_true, if_false]
                    exact this
                  · cases e
                · rcases bound_some eh' with ⟨e, _⟩ | ⟨v, e, hi, hle⟩
                  · cases e
                  · cases e
                    have := low el .sliceB (fun l => Pure.pure (l, h, cap'))
                    simp only [Go.Instr.sliceBounds, Option.map_none, Option.map_some, Sem.run_bind, Sem.run_pure, Go.Result.andThen_ok, Option.isSome_none, Bool.false_eq_true, if_false, bound_ok hu2 cap' hi (Nat.le_trans hle hcap) _ w]
                    exact this
              · rcases bound_some em with ⟨e, _⟩ | ⟨v, e, hi3, hle3⟩
                · cases e
                · cases e
                  refine ⟨?_, fun e => by cases e⟩
                  rcases k2 with ⟨rfl, rfl⟩ | ⟨x2, u2, rfl, rfl, hu2⟩
                  · cases eh
                  · have eh' : bound (some u2) m len = some h := eh
                    rcases bound_some eh' with ⟨e, _⟩ | ⟨v, e, hi, hle⟩
                    · cases e
                    · cases e
                      have := low el .slice3C (fun l => Pure.pure (l, h, m))
                      simp only [Go.Instr.sliceBounds, Option.map_some, Sem.run_bind, Go.Result.andThen_ok, Option.isSome_some, if_true, bound_ok hu3 cap' hi3 (Nat.le_trans hle3 hcap) _ w, bound_ok hu2 m hi hle _ w]
                      exact this

theorem cSlc_ok (hT : TabOk P tt ft) (hE : EnR ρ π wr en a) {x : Operand} {lo hi mx : Option Operand} {t : TypeId} {f : PSem} {r : S}
    (hc : cSlc tt t (opd wr x) (opdO wr lo) (opdO wr hi) (opdO wr mx) = some (.p f)) (h : f en = some r) :
    NOk P ρ π (do let v ← Go.Instr.sliceAt t (a.eval x) (lo.map a.eval) (hi.map a.eval) (mx.map a.eval); Pure.pure (.value v)) r := by
  unfold cSlc at hc
  cases hx : opd wr x with
  | none => rw [hx] at hc; cases hc
  | some x' =>
  cases h1 : opdO wr lo with
  | none => rw [hx, h1] at hc; cases hc
  | some lo' =>
  cases h2 : opdO wr hi with
  | none => rw [hx, h1, h2] at hc; cases hc
  | some hi' =>
  cases h3 : opdO wr mx with
  | none => rw [hx, h1, h2, h3] at hc; cases hc
  | some mx' =>
    rw [hx, h1, h2, h3] at hc
    simp only at hc
    split at hc
    · split at hc
      · cases hc
      · cases hc
    · rename_i len e hu
      cases hs : tySize tt e with
      | none => rw [hs] at hc; cases hc
      | some n =>
        rw [hs] at hc
        cases hc
        obtain ⟨i, hi0, hn⟩ := tySize_ok hT hs
        unfold pSla at h
        split at h
        · rename_i b o he
          split at h
          · rename_i l h0 m hb
            cases h
            obtain ⟨I, hI, e1⟩ := (opd_okV hE hx he).inv_p
            refine VOk.next (fun w => ?_)
            obtain ⟨k1, k2⟩ := bounds_ok (P := P) hE h1 h2 h3 hb (Nat.le_refl _) false w
            have km : (if mx.isSome = true then m else len) = m := by
              cases mx with
              | none => simp [k2 rfl]
              | some _ => rfl
            rw [km] at k1
            rw [e1]
            refine ⟨.slice (some ⟨I.blk, I.base + (bif Nat.beq m l then o else o + l * n), none⟩) (h0 - l) (m - l), w, ?_, ⟨rfl, rfl, rfl⟩, .v (.s hI ?_)⟩
            · simp only [Go.Instr.sliceAt, Sem.run_bind, run_underlying (und_ok hT hu), Go.Result.andThen_ok, Go.Instr.sureAddr, Sem.run_pure, k1, run_sizeOf hi0, hn]
              by_cases hml : m = l
              · rw [if_pos hml, beq_t hml]; rfl
              · rw [if_neg hml, beq_f hml, addr_add]; simp [Nat.add_assoc]
            · unfold CapOk; split
              · rfl
              · exact .inl rfl
          · cases h
        · cases h
    · cases hc
theorem cFld_ok (hT : TabOk P tt ft) (hE : EnR ρ π wr en a) {x : Operand} {t : TypeId} {n : Nat} {f : PSem} {r : S} (hc : cFld tt t n (opd wr x) = some (.p f)) (h : f en = some r) :
    NOk P ρ π (do let v ← Go.Instr.fieldAt t (a.eval x) n; Pure.pure (.value v)) r := by
  unfold cFld at hc
  split at hc
  · rename_i fs hu
    split at hc
    · rename_i fd hf
      split at hc
      · rename_i m hs
        obtain ⟨y, hy, rfl⟩ := c1_inv hc
        obtain ⟨b, e1, _, e2⟩ := wFld hE hy h
        obtain ⟨i, hi, hn⟩ := tySize_ok hT hs
        refine VOk.next (fun w => ⟨_, w, ?_, ⟨rfl, rfl, rfl⟩, e2⟩)
        have hf' : fs[n]? = some fd := by rw [nth_eq] at hf; simpa using hf
        simp only [Go.Instr.fieldAt, Sem.run_bind, run_underlying (und_ok hT hu), Go.Result.andThen_ok, hf', e1, Go.Instr.sureAddr, Sem.run_pure, Go.fieldPlace, run_sizeOf hi, hn]
        rw [if_neg (by omega)]; rfl
      · cases hc
    · cases hc
  · cases hc
theorem pPart_ok (hT : TabOk P tt ft) (hE : EnR ρ π wr en a) {x : Operand} {y : Opd} {t : TypeId} {off n : Nat} {ag : Bool} (ht : tyVar tt t = some (n, ag)) {r : S} (hx : opd wr x = some y) (h : pPart y off n ag en = some r) :
    ∃ cs, a.eval x = .agg cs ∧ ∀ w, ∃ c, (Go.part t cs off).run P w = .ok c w ∧ SR ρ π r c := by
  unfold pPart at h
  split at h
  · rename_i cs he
    obtain ⟨v, hv, rfl⟩ := sv_some h
    obtain ⟨cc, hcc, e1⟩ := (opd_okV hE hx he).inv_agg
    refine ⟨cc.toArray, e1, fun w => ?_⟩
    obtain ⟨c, k1, k2⟩ := part_ok hT ht hcc hv w
    exact ⟨c, k1, .v k2⟩
  · cases h
theorem cPart_ok (hT : TabOk P tt ft) (hE : EnR ρ π wr en a) {x : Operand} {t : TypeId} {n : Nat} {f : PSem} {r : S} (hc : cPart tt t n (opd wr x) = some (.p f)) (h : f en = some r) :
    NOk P ρ π (do let v ← Go.Instr.field t (a.eval x) n; Pure.pure (.value v)) r := by
  unfold cPart at hc
  split at hc
  · rename_i fs hu
    split at hc
    · rename_i fd hf
      split at hc
      · rename_i m ag hs
        obtain ⟨y, hy, rfl⟩ := c1_inv hc
        obtain ⟨cs, e1, e2⟩ := pPart_ok hT hE hs hy h
        refine VOk.next (fun w => ?_)
        obtain ⟨c, k1, k2⟩ := e2 w
        have hf' : fs[n]? = some fd := by rw [nth_eq] at hf; simpa using hf
        refine ⟨c, w, ?_, ⟨rfl, rfl, rfl⟩, k2⟩
        simp only [Go.Instr.field, Sem.run_bind, run_underlying (und_ok hT hu), Go.Result.andThen_ok, hf', e1, Go.asAgg, Sem.run_pure, k1]
      · cases hc
    · cases hc
  · cases hc
theorem cIxa_ok (hT : TabOk P tt ft) (hE : EnR ρ π wr en a) {x i : Operand} {t : TypeId} {f : PSem} {r : S} (hc : cIxa tt t (opd wr x) (opd wr i) = some (.p f)) (h : f en = some r) :
    NOk P ρ π (do let v ← Go.Instr.indexAt t (a.eval x) (a.eval i); Pure.pure (.value v)) r := by
  unfold cIxa at hc
  split at hc
  · rename_i e hu
    split at hc
    · rename_i n hs
      obtain ⟨x', i', hx, hi, rfl⟩ := c2_inv hc
      obtain ⟨ie, hie, hn⟩ := tySize_ok hT hs
      unfold pIxa at h
      split at h
      · rename_i b o len cap he
        obtain ⟨j, hj, h⟩ := evI_match h
        obtain ⟨k, ek⟩ := opd_okI hE hi hj
        by_cases hlt : j < len
        · rw [blt_t hlt, cond_true] at h
          cases h
          obtain ⟨I, c', hI, _, e1⟩ := (opd_okV hE hx he).inv_s
          refine VOk.next (fun w => ⟨.pointer (some ⟨I.blk, I.base + (o + j * n), none⟩), w, ?_, ⟨rfl, rfl, rfl⟩, .v (.p hI)⟩)
          have h0 : (0 : Int) ≤ (j : Int) ∧ (j : Int) < len := by omega
          simp only [Go.Instr.indexAt, Sem.run_bind, run_underlying (und_ok hT hu), Go.Result.andThen_ok, e1, ek, Go.asIntOf, Sem.run_pure, if_pos h0, run_sizeOf hie, hn, addr_add, Int.toNat_natCast, Nat.add_assoc]
        · rw [blt_f hlt, cond_false] at h; cases h
      · cases h
    · cases hc
  · rename_i len e hu
    split at hc
    · rename_i n hs
      obtain ⟨x', i', hx, hi, rfl⟩ := c2_inv hc
      obtain ⟨ie, hie, hn⟩ := tySize_ok hT hs
      unfold pIxp at h
      obtain ⟨j, hj, h⟩ := evI_match h
      obtain ⟨k, ek⟩ := opd_okI hE hi hj
      by_cases hlt : j < len
      · rw [blt_t hlt, cond_true] at h
        obtain ⟨b, e1, _, e2⟩ := wFld hE hx h
        refine VOk.next (fun w => ⟨_, w, ?_, ⟨rfl, rfl, rfl⟩, e2⟩)
        have h0 : (0 : Int) ≤ (j : Int) ∧ (j : Int) < len := by omega
        simp only [Go.Instr.indexAt, Sem.run_bind, run_underlying (und_ok hT hu), Go.Result.andThen_ok, e1, ek, Go.asIntOf, Go.Instr.sureAddr, Sem.run_pure, if_pos h0, run_sizeOf hie, hn, Int.toNat_natCast]
      · rw [blt_f hlt, cond_false] at h; cases h
    · cases hc
  · cases hc
theorem cIx_ok (hT : TabOk P tt ft) (hE : EnR ρ π wr en a) {x i : Operand} {t : TypeId} {f : PSem} {r : S} (hc : cIx tt wr t x (opd wr i) = some (.p f)) (h : f en = some r) :
    NOk P ρ π (do let v ← Go.Instr.index t (a.eval x) (a.eval i); Pure.pure (.value v)) r := by
  unfold cIx at hc
  split at hc
  · rename_i hu
    split at hc
    · rename_i s
      obtain ⟨y, hy, rfl⟩ := c1_inv hc
      unfold pSix at h
      obtain ⟨j, hj, h⟩ := evI_match h
      obtain ⟨k, ek⟩ := opd_okI hE hy hj
      split at h
      · rename_i n hn
        cases h
        refine VOk.next (fun w => ⟨.int .u8 n, w, ?_, ⟨rfl, rfl, rfl⟩, .v (.i _ _)⟩)
        have hs : ∃ b : UInt8, s[j]? = some b ∧ b.toNat = n := by
          rw [List.getElem?_map, Option.map_eq_some_iff] at hn
          obtain ⟨b, hb, e⟩ := hn
          refine ⟨b, ?_, e⟩
          have hlt : j < s.size := by
            have := (List.getElem?_eq_some_iff.1 hb).1
            simpa using this
          have : s.data[j]? = some b := by simpa using hb
          rw [getElem?_pos s j hlt]
          rw [getElem?_pos s.data j hlt] at this
          exact this
        obtain ⟨b, hb, e⟩ := hs
        have h0 : (0 : Int) ≤ (j : Int) := by omega
        have ec : a.eval (.const (.string s)) = .string s := rfl
        simp only [Go.Instr.index, Sem.run_bind, run_underlying (und_ok hT hu), Go.Result.andThen_ok, ek, ec, Go.asIntOf, Sem.run_pure, if_pos h0, Int.toNat_natCast, hb, e]
      · cases h
    · cases hc
  · rename_i len e hu
    split at hc
    · rename_i n ag hs
      obtain ⟨x', i', hx, hi, rfl⟩ := c2_inv hc
      unfold pIxv at h
      obtain ⟨j, hj, h⟩ := evI_match h
      obtain ⟨k, ek⟩ := opd_okI hE hi hj
      by_cases hlt : j < len
      · rw [blt_t hlt, cond_true] at h
        obtain ⟨cs, e1, e2⟩ := pPart_ok hT hE hs hx h
        obtain ⟨ie, _, hie, hn, _⟩ := tyVar_ok hT hs
        refine VOk.next (fun w => ?_)
        obtain ⟨c, k1, k2⟩ := e2 w
        refine ⟨c, w, ?_, ⟨rfl, rfl, rfl⟩, k2⟩
        have h0 : (0 : Int) ≤ (j : Int) ∧ (j : Int) < len := by omega
        simp only [Go.Instr.index, Sem.run_bind, run_underlying (und_ok hT hu), Go.Result.andThen_ok, e1, ek, Go.asIntOf, Sem.run_pure, if_pos h0, run_sizeOf hie, hn, Int.toNat_natCast, k1]
      · rw [blt_f hlt, cond_false] at h; cases h
    · cases hc
  · cases hc
theorem pExt_ok (hE : EnR ρ π wr en a) {x : Operand} {y : Opd} {n : Nat} {r : S} (hx : opd wr x = some y) (h : pExt y n en = some r) :
    NOk P ρ π (do let v ← Go.Instr.extract (a.eval x) n; Pure.pure (.value v)) r := by
  unfold pExt at h
  split at h
  · rename_i vs he
    obtain ⟨v, hv, rfl⟩ := sv_some h
    obtain ⟨cs, hcs, e1⟩ := (opd_okV hE hx he).inv_tup
    obtain ⟨c, hc, k⟩ := hcs.get n v hv
    refine VOk.next (fun w => ⟨c, w, ?_, ⟨rfl, rfl, rfl⟩, .v k⟩)
    have : cs.toArray[n]? = some c := by simpa using hc
    simp only [e1, Go.Instr.extract, this, Sem.run_pure]
  · cases h

/-! Builtins. -/
theorem neg_kind (s : Bool) (r : Nat) : (kind s r).neg = s := by
  unfold kind; split
  · rfl
  · split <;> rfl
theorem ile_true {a b : Int} (h : a ≤ b) : ile a b = true := by rw [ile_eq]; simp [h]
theorem ile_false {a b : Int} (h : ¬ a ≤ b) : ile a b = false := by rw [ile_eq]; simp [h]
theorem mm2_ok {m : Bool} {x y v : V} {c d : Value} (hx : VR ρ x c) (hy : VR ρ y d) (h : mm2 m x y = some v) : VOk P ρ π (bif m then Go.Builtin.max2 c d else Go.Builtin.min2 c d) (.v v) := by
  unfold mm2 at h
  split at h
  · rename_i k p k' q
    split at h
    · rename_i hk; subst hk
      cases h
      rw [hx.inv_i, hy.inv_i]
      cases m with
      | true =>
        simp only [cond_true, Go.Builtin.max2]
        by_cases hc : q ≤ p
        · rw [ile_true hc, cond_true, if_neg (by omega)]; exact .val (.i _ _)
        · rw [ile_false hc, cond_false, if_pos (by omega)]; exact .val (.i _ _)
      | false =>
        simp only [cond_false, Go.Builtin.min2]
        by_cases hc : p ≤ q
        · rw [ile_true hc, cond_true, if_neg (by omega)]; exact .val (.i _ _)
        · rw [ile_false hc, cond_false, if_pos (by omega)]; exact .val (.i _ _)
    · cases h
  · rename_i p q
    cases h
    obtain ⟨p', rfl, rfl⟩ := hx.inv_f
    obtain ⟨q', rfl, rfl⟩ := hy.inv_f
    have hfmt : FloatKind.f64.format = Ieee.double := rfl
    have ho := order_canon p' q'
    cases hord : Ieee.double.order p' q' with
    | none =>
      have hf : fnum (canon p') (canon q') = false := by
        rw [hord, order_eq] at ho
        split at ho
        · cases ho
        · rename_i hn; simpa using hn
      rw [hf, cond_false]
      intro w
      obtain ⟨r, w', h1, h2, h3⟩ := run_nanMM P m p' q' w
      refine ⟨.float .f64 r, w', ?_, h2, .v (VR.of_f h3.symm)⟩
      cases m <;> simp only [cond_true, cond_false, Go.Builtin.max2, Go.Builtin.min2, hfmt, hord, Sem.run_bind, h1, Go.Result.andThen_ok, Sem.run_pure]
    | some ord =>
      have hf : fnum (canon p') (canon q') = true := by
        rw [hord, order_eq] at ho
        split at ho
        · assumption
        · cases ho
      rw [hf, cond_true]
      have e1 := flt_eq (canon p') (canon q')
      have e2 := fgt_eq (canon p') (canon q')
      rw [ho, hord] at e1 e2
      have hneg : (FloatKind.f64.decode p').neg = fsgn p' := by
        show (Ieee.double.read p').neg = _
        rw [read_kind, neg_kind]
      have hnum : isnan p' = false := by
        have := hf
        unfold fnum at this
        simp only [Bool.and_eq_true] at this
        have h1 := Nat.le_of_ble_eq_true this.1
        cases hn : isnan p' with
        | false => rfl
        | true =>
          have := (isnan_iff (canon p')).1 (by rw [isnan_canon]; exact hn)
          omega
      have hs : fsgn (canon p') = fsgn p' := by rw [canon_of_num hnum]
      rw [← e1, ← e2, hs]
      cases m <;> cases ord <;> simp only [cond_true, cond_false, Go.Builtin.max2, Go.Builtin.min2, hfmt, hord, hneg]
      all_goals first
        | exact .val (.f _)
        | (cases hb : fsgn p' <;> simp only [Bool.false_eq_true, if_false, if_true] <;> exact .val (.f _))
  · cases h

theorem opdL_one {xs : List Operand} {y : Opd} (h : opdL wr xs = some [y]) : ∃ x, xs = [x] ∧ opd wr x = some y := by
  cases xs with
  | nil => simp [opdL] at h
  | cons x xs =>
    simp only [opdL] at h
    cases hx : opd wr x with
    | none => rw [hx] at h; cases h
    | some z =>
      rw [hx] at h
      simp only [consO_map, Option.map_eq_some_iff] at h
      obtain ⟨zs, hz, e⟩ := h
      cases e
      cases xs with
      | nil => exact ⟨x, rfl, hx⟩
      | cons u us =>
        simp only [opdL] at hz
        split at hz
        · cases hz
        · rw [consO_map] at hz; simp at hz
theorem opdL_two {xs : List Operand} {y z : Opd} (h : opdL wr xs = some [y, z]) : ∃ x x', xs = [x, x'] ∧ opd wr x = some y ∧ opd wr x' = some z := by
  cases xs with
  | nil => simp [opdL] at h
  | cons x xs =>
    simp only [opdL] at h
    cases hx : opd wr x with
    | none => rw [hx] at h; cases h
    | some u =>
      rw [hx] at h
      simp only [consO_map, Option.map_eq_some_iff] at h
      obtain ⟨zs, hz, e⟩ := h
      cases e
      obtain ⟨x', rfl, hx'⟩ := opdL_one hz
      exact ⟨x, x', rfl, hx, hx'⟩
theorem isSlice_ok (hT : TabOk P tt ft) {t e : TypeId} (h : isSlice tt t = some e) : P.underlying t = some (.slice e) := by
  unfold isSlice at h
  split at h
  · cases h; exact und_ok hT (by assumption)
  · cases h
theorem fun_call {f : Nat} {args : Array Value} : (do let d ← Go.Deferred.ofValue (.func (.func f) #[] #[]) args; Go.invoke d.target d.args : Sem Next) = Go.callFunc f args := by
  simp [Go.Deferred.ofValue, Go.invoke]
theorem len_ok (hT : TabOk P tt ft) {t e : TypeId} (hs : isSlice tt t = some e) (tys : Array TypeId) (ht : tys.toList[0]? = some t) (ty : TypeId) {c : Value} {a0 : Option (Nat × Nat)} {n k : Nat} (hv : VR ρ (.s a0 n k) c) (w : World) :
    (Go.Builtin.len_ tys ty #[c]).run P w = .ok (.int .i64 n) w := by
  have h0 : tys[0]? = some t := by simpa using ht
  have hu := isSlice_ok hT hs
  have : ∃ a' k', c = .slice a' n k' := by
    cases a0 with
    | none => exact ⟨_, _, hv.inv_s0⟩
    | some p => obtain ⟨b, o⟩ := p; obtain ⟨I, k', _, _, e⟩ := hv.inv_s; exact ⟨_, _, e⟩
  obtain ⟨a', k', rfl⟩ := this
  simp [Go.Builtin.len_, h0, run_underlying hu, Go.goInt]
theorem ext_sqrt (v : Nat) : Go.Extern.MathSqrt.sqrt #[.float .f64 v] = fres v v (Ieee.double.sqrt v) := rfl
theorem ext_bits (v : Nat) : Go.Extern.MathFloatBits.float64bits #[.float .f64 v] = Pure.pure (.int .u64 v) := rfl
theorem ext_from (n : Int) : Go.Extern.MathFloatBits.float64frombits #[.int .u64 n] = Pure.pure (.float .f64 n.toNat) := rfl
theorem cExt_ok (hE : EnR ρ π wr en a) {name : String} {xs : List Operand} {ys : List Opd} {fn : Func} {f : Nat} {g : PSem} {r : S} (hys : opdL wr xs = some ys) (hf : P.funcs[f]? = some fn) (hb : fn.body = none) (ho : fn.origin = "") (hn : fn.name = name)
    (hc : cExt name ys = some (.p g)) (h : g en = some r) : NOk P ρ π (Go.callFunc f (xs.map a.eval).toArray) r := by
  unfold cExt at hc
  split at hc
  · rename_i y
    obtain ⟨x, rfl, hx⟩ := opdL_one hys
    have hfind : ∀ (nm : String) (e : Array Value → Sem Value), fn.name = nm → Go.Extern.allNextRows.lookup nm = none → Go.Extern.allNextRows.lookup "" = none →
        Go.Extern.allGenericRows.lookup nm = none → Go.Extern.allTypedRows.lookup nm = none → Go.Extern.allRows.lookup nm = some e → (nm == "runtime.NumGoroutine") = false →
        ∀ (args : Array Value) (w : World), (Go.callFunc f args).run P w = ((e args).run P w).andThen fun v w' => .ok (.value v) w' := by
      intro nm e h0 h1 h2 h3 h4 h5 h6 args w
      refine Go.run_callFunc_extern hf (by rw [h0]; exact h6) (by rw [hb]; rfl) ?_ ?_ args w
      · simp only [Go.Extern.findNext, h0, ho, h1, h2]; rfl
      · simp only [Go.Extern.find, h0, h3, h4, h5]; rfl
    cases h1 : (name == "math.sqrt") with
    | true =>
      rw [h1, cond_true] at hc
      cases hc
      have e1 : name = "math.sqrt" := by simpa using h1
      unfold pSqrt at h
      split at h
      · rename_i u hu
        cases h
        obtain ⟨v, e2, rfl⟩ := (opd_okV hE hx hu).inv_f
        intro w
        have := hfind "math.sqrt" Go.Extern.MathSqrt.sqrt (hn.trans e1) (by kernel_rfl) (by kernel_rfl) (by kernel_rfl) (by kernel_rfl) (by kernel_rfl) (by decide) ((List.map a.eval [x]).toArray) w
        rw [this, ← fsqrt_eq, sqrt_canon]
        obtain ⟨c, w', k1, k2, k3⟩ := float_ok (P := P) (ρ := ρ) (π := π) (x := v) (y := v) (Ieee.double.sqrt v) (fun r hr => sqrt_num hr) w
        refine ⟨c, w', ?_, k2, k3⟩
        simp only [List.map_cons, List.map_nil, e2, ext_sqrt, k1, Go.Result.andThen_ok]
      · cases h
    | false =>
      rw [h1, cond_false] at hc
      cases h2 : (name == "math.Float64bits") with
      | true =>
        rw [h2, cond_true] at hc
        cases hc
        have e1 : name = "math.Float64bits" := by simpa using h2
        unfold pFbits at h
        split at h
        · rename_i u hu
          obtain ⟨v, e2, rfl⟩ := (opd_okV hE hx hu).inv_f
          cases hnn : isnan (canon v) with
          | true => rw [hnn] at h; cases h
          | false =>
            rw [hnn, cond_false] at h
            cases h
            rw [isnan_canon] at hnn
            intro w
            have := hfind "math.Float64bits" Go.Extern.MathFloatBits.float64bits (hn.trans e1) (by kernel_rfl) (by kernel_rfl) (by kernel_rfl) (by kernel_rfl) (by kernel_rfl) (by decide) ((List.map a.eval [x]).toArray) w
            rw [this]
            refine ⟨.int .u64 v, w, ?_, ⟨rfl, rfl, rfl⟩, ?_⟩
            · simp only [List.map_cons, List.map_nil, e2, ext_bits, Sem.run_pure, Go.Result.andThen_ok]
            · rw [canon_of_num hnn]; exact .v (.i _ _)
        · cases h
      | false =>
        rw [h2, cond_false] at hc
        cases h3 : (name == "math.Float64frombits") with
        | true =>
          rw [h3, cond_true] at hc
          cases hc
          have e1 : name = "math.Float64frombits" := by simpa using h3
          unfold pFfrom at h
          split at h
          · rename_i u hu
            cases h
            have e2 := (opd_okV hE hx hu).inv_i
            intro w
            have := hfind "math.Float64frombits" Go.Extern.MathFloatBits.float64frombits (hn.trans e1) (by kernel_rfl) (by kernel_rfl) (by kernel_rfl) (by kernel_rfl) (by kernel_rfl) (by decide) ((List.map a.eval [x]).toArray) w
            rw [this]
            refine ⟨.float .f64 u, w, ?_, ⟨rfl, rfl, rfl⟩, .v (.f _)⟩
            simp only [List.map_cons, List.map_nil, e2, ext_from, Sem.run_pure, Go.Result.andThen_ok]; rfl
          · cases h
        | false => rw [h3] at hc; cases hc
  · cases hc

theorem cFun_p {f : Nat} {args : List Opd} {g : PSem} (hc : cFun ft f args = some (.p g)) : ∃ fn, ft.get f = some fn ∧ fn.body = none ∧ fn.origin = "" ∧ cExt fn.name args = some (.p g) := by
  unfold cFun at hc
  split at hc
  · cases hc
  · rename_i fn hf
    split at hc
    · cases hc
    · rename_i hb
      cases ho : fn.origin == "" with
      | true => rw [ho, cond_true] at hc; exact ⟨fn, hf, hb, by simpa using ho, hc⟩
      | false => rw [ho, cond_false] at hc; cases hc
theorem ext_real (k : FloatKind) (x y : Nat) (t : Array TypeId) (u : TypeId) : Go.Builtin.real_ t u #[.complex k x y] = Pure.pure (.float k x) := rfl
theorem ext_imag (k : FloatKind) (x y : Nat) (t : Array TypeId) (u : TypeId) : Go.Builtin.imag_ t u #[.complex k x y] = Pure.pure (.float k y) := rfl
theorem ext_cplx (k : FloatKind) (x y : Nat) (t : Array TypeId) (u : TypeId) : Go.Builtin.complex_ t u #[.float k x, .float k y] = Pure.pure (.complex k x y) := by
  show (if k = k then _ else _) = _
  rw [if_pos rfl]
theorem cApp_m {t u : TypeId} {x y : Opd} {g : PSem} : cApp tt t u x y ≠ some (.p g) := by
  unfold cApp
  intro h
  repeat' split at h
  all_goals first
    | (cases h; done)
    | (rename_i z _; cases hz : (lenIs z _ && (Nat.blt 0 _ && Nat.blt 0 _)) <;> rw [hz] at h <;> cases h)
theorem cCpy_m {t : TypeId} {x y : Opd} {g : PSem} : cCpy tt t x y ≠ some (.p g) := by
  unfold cCpy
  intro h
  split at h
  · split at h <;> cases h
  · cases h
theorem cBlt_ok (hT : TabOk P tt ft) (hE : EnR ρ π wr en a) {b : Builtin} {tys : Array TypeId} {xs : Array Operand} {ys : List Opd} {g : PSem} {r : S} (hys : opdL wr xs.toList = some ys)
    (hc : compileBuiltin tt b tys.toList ys = some (.p g)) (h : g en = some r) (ty : TypeId) (consts : Array Bool) : NOk P ρ π (Go.builtin b tys ty consts (xs.map a.eval)) r := by
  unfold compileBuiltin at hc
  split at hc
  · rename_i y
    obtain ⟨x, hxs, hx⟩ := opdL_one hys
    have exs : xs.map a.eval = #[a.eval x] := by rw [← toArr, hxs]; rfl
    rw [exs]
    split at hc
    · split at hc
      · rename_i t ts htys
        split at hc
        · rename_i e hs
          cases hc
          unfold pLen at h
          split at h
          · rename_i a0 n k hv
            cases h
            refine VOk.next (fun w => ⟨.int .i64 n, w, ?_, ⟨rfl, rfl, rfl⟩, .v (.i _ _)⟩)
            exact len_ok hT hs tys (by rw [htys]; rfl) ty (opd_okV hE hx hv) w
          · cases h
        · cases hc
      · cases hc
    · cases hc
      unfold pRe at h
      split at h
      · rename_i p q hv
        cases h
        obtain ⟨p', q', e, rfl, rfl⟩ := (opd_okV hE hx hv).inv_c
        rw [e]
        exact VOk.next (fun w => ⟨.float .f64 p', w, by rw [ext_real]; rfl, ⟨rfl, rfl, rfl⟩, .v (.f _)⟩)
      · cases h
    · cases hc
      unfold pIm at h
      split at h
      · rename_i p q hv
        cases h
        obtain ⟨p', q', e, rfl, rfl⟩ := (opd_okV hE hx hv).inv_c
        rw [e]
        exact VOk.next (fun w => ⟨.float .f64 q', w, by rw [ext_imag]; rfl, ⟨rfl, rfl, rfl⟩, .v (.f _)⟩)
      · cases h
    · cases hc
  · rename_i y z
    obtain ⟨x, x', hxs, hx, hx'⟩ := opdL_two hys
    have exs : xs.map a.eval = #[a.eval x, a.eval x'] := by rw [← toArr, hxs]; rfl
    rw [exs]
    have hmm : ∀ (m : Bool), pMm m y z en = some r → VOk P ρ π (bif m then Go.Builtin.max2 (a.eval x) (a.eval x') else Go.Builtin.min2 (a.eval x) (a.eval x')) r := by
      intro m hm
      unfold pMm at hm
      obtain ⟨u, hu, hm⟩ := evV_match hm
      obtain ⟨v, hv, hm⟩ := evV_match hm
      obtain ⟨q, hq, rfl⟩ := sv_some hm
      exact mm2_ok (opd_okV hE hx hu) (opd_okV hE hx' hv) hq
    split at hc
    · split at hc
      · exact absurd hc cApp_m
      · cases hc
    · split at hc
      · exact absurd hc cCpy_m
      · cases hc
    · cases hc
      refine VOk.next (VOk.congr ?_ (hmm false h))
      simp [Go.Builtin.min_]
    · cases hc
      refine VOk.next (VOk.congr ?_ (hmm true h))
      simp [Go.Builtin.max_]
    · cases hc
      unfold pCx at h
      split at h
      · rename_i p hp
        split at h
        · rename_i q hq
          cases h
          obtain ⟨p', e1, rfl⟩ := (opd_okV hE hx hp).inv_f
          obtain ⟨q', e2, rfl⟩ := (opd_okV hE hx' hq).inv_f
          rw [e1, e2]
          exact VOk.next (fun w => ⟨.complex .f64 p' q', w, by rw [ext_cplx]; rfl, ⟨rfl, rfl, rfl⟩, .v (.c _ _)⟩)
        · cases h
      · cases h
    · cases hc
  · cases hc
theorem callP_ok (hT : TabOk P tt ft) (hE : EnR ρ π wr en a) {mt : List TypeId} {c : Go.Call} {g : PSem} {r : S} (hc : compileCall tt ft wr mt c = some (.p g)) (h : g en = some r) (ty : TypeId) :
    NOk P ρ π (do let d ← Go.resolve a.eval c ty; Go.invoke d.target d.args) r := by
  unfold compileCall at hc
  cases hys : opdL wr c.args.toList with
  | none => rw [hys] at hc; cases hc
  | some ys =>
    rw [hys] at hc
    simp only at hc
    split at hc
    · rename_i b hb
      simp only [Go.resolve, hb, pure_bind, Go.invoke]
      exact cBlt_ok hT hE hys hc h ty _
    · split at hc <;> cases hc
    · rename_i f hf
      obtain ⟨fn, h1, h2, h3, h4⟩ := cFun_p hc
      have e : a.eval (.func f) = .func (.func f) #[] #[] := rfl
      simp only [Go.resolve, hf, e]
      rw [fun_call]
      have := cExt_ok hE hys (hT.fn f fn h1) h2 h3 rfl h4 h
      rwa [toArr] at this
    · split at hc <;> cases hc
/-- An operation of registers alone. -/
theorem compileP_ok (hT : TabOk P tt ft) (hE : EnR ρ π wr en a) {esc : Nat} {mt : List TypeId} {o : Oper} {g : PSem} {r : S} (hc : compileOp P tt ft wr esc mt o = some (.p g)) (h : g en = some r) :
    NOk P ρ π (execOp a.eval o) r := by
  obtain ⟨dst, op, type, pos, after, guard⟩ := o
  unfold compileOp at hc
  cases op <;> simp only at hc <;> simp only [execOp]
  case move x =>
    obtain ⟨y, hy, rfl⟩ := c1_inv hc
    exact NOk.pure (pMov_ok hE hy h)
  case assign x =>
    obtain ⟨y, hy, rfl⟩ := c1_inv hc
    exact NOk.pure (pMov_ok hE hy h)
  case pick c x y =>
    unfold cPick at hc
    split at hc
    · rename_i c' hc'
      obtain ⟨x', y', hx, hy, rfl⟩ := c2_inv hc
      exact wPick hE hc' hx hy h
    · cases hc
  case alloc => unfold cAlloc at hc; split at hc <;> cases hc
  case box => unfold cBox at hc; split at hc <;> cases hc
  case build t ps => exact cBuild_ok hT hE hc h
  case buildSlice =>
    unfold cBsl bslM at hc
    split at hc
    · split at hc
      · split at hc
        · rename_i z hz
          cases hb : (Nat.ble (Nat.mul _ _) 16777216 && (lenIs z _ && Nat.blt 0 _)) with
          | true => rw [hb, cond_true] at hc; split at hc <;> cases hc
          | false => rw [hb] at hc; cases hc
        · cases hc
      · cases hc
    · cases hc
  case load => unfold cLd at hc; split at hc; · split at hc <;> cases hc
               · cases hc
  case store => unfold cSt at hc; split at hc; · split at hc; · split at hc <;> cases hc
                                                 · cases hc
                · cases hc
  case nilCheck x =>
    obtain ⟨y, hy, rfl⟩ := c1_inv hc
    obtain ⟨b, e, hs⟩ := wChk hE hy h
    rw [e] at hs ⊢
    exact NOk.pure hs
  case binOp o t x y yt => exact (show NOk P ρ π _ r from by
    have := cBin_ok hT hE hc h
    simpa using this)
  case unOp o t x =>
    obtain ⟨y, hy, rfl⟩ := c1_inv hc
    exact wUn hE hy h
  case convert s d x => exact cConv_ok hT hE hc h
  case makeInterface t x => exact cIfc_ok hT hE hc h
  case makeFunc fn first caps => exact cMkf_ok hE hc h
  case makeSlice => 
    unfold cMsl at hc
    repeat' split at hc
    all_goals first
      | (cases hc; done)
      | (generalize (lenIs _ _ && Nat.blt 0 _) = b at hc; cases b <;> cases hc)
  case slice t x lo hi mx => exact cSlc_ok hT hE hc h
  case fieldAddr s x f => exact cFld_ok hT hE hc h
  case field s x f => exact cPart_ok hT hE hc h
  case indexAddr t x i => exact cIxa_ok hT hE hc h
  case index t x i => exact cIx_ok hT hE hc h
  case extract x i =>
    obtain ⟨y, hy, rfl⟩ := c1_inv hc
    exact pExt_ok hE hy h
  case call c => exact callP_ok hT hE hc h type
  all_goals cases hc
end
end Am
