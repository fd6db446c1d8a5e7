/-
The operations that look at registers alone come to what the model's come to.
-/
import Derived.Test.YtimngjghbojjlaaGreatAmRel
import Derived.Laws.Tables
import Derived.Laws.BitsLemmas
import Derived.Laws.Bits64
import Derived.Laws.StructEq
namespace Am
open Go (IntKind FloatKind BinOp UnOp Value Addr World Program Act Oper Op Operand TypeDesc TypeInfo TypeId Sem Result Next execOp)

structure TabOk (P : Program) (tt : TT) (ft : FT) : Prop where
  ty : ∀ t i, tt.get t = some i → P.info? t = some i
  fn : ∀ f x, ft.get f = some x → P.funcs[f]? = some x

section
variable {P : Program} {tt : TT} {ft : FT}
theorem und_ok (hT : TabOk P tt ft) {t : TypeId} {d : TypeDesc} (h : und tt t = some d) : P.underlying t = some d := by
  unfold und at h
  cases hi : tt.get t with
  | none => rw [hi] at h; cases h
  | some i =>
    rw [hi] at h
    have hp := hT.ty t i hi
    replace h : undD tt i.desc = some d := h
    unfold Program.underlying
    rw [hp]
    obtain ⟨desc, str, size, bytes, hpt, al, fal, zero, cmp, ms⟩ := i
    cases desc with
    | named n u =>
      replace h : (match tt.get u with | some i => some i.desc | none => none) = some d := h
      cases hu : tt.get u with
      | none => rw [hu] at h; cases h
      | some j =>
        rw [hu] at h
        have hq := hT.ty u j hu
        show Option.map (·.desc) (P.info? u) = some d
        rw [hq]; exact h
    | _ => exact h
theorem tySize_ok (hT : TabOk P tt ft) {t : TypeId} {n : Nat} (h : tySize tt t = some n) : ∃ i, P.info? t = some i ∧ i.size = n := by
  unfold tySize at h
  cases hi : tt.get t with
  | none => rw [hi] at h; cases h
  | some i => rw [hi] at h; exact ⟨i, hT.ty t i hi, by simpa using h⟩
theorem tyBytes_ok (hT : TabOk P tt ft) {t : TypeId} {n : Nat} (h : tyBytes tt t = some n) : ∃ i, P.info? t = some i ∧ i.bytes = n := by
  unfold tyBytes at h
  cases hi : tt.get t with
  | none => rw [hi] at h; cases h
  | some i => rw [hi] at h; exact ⟨i, hT.ty t i hi, by simpa using h⟩
theorem run_underlying {t : TypeId} {d : TypeDesc} (h : P.underlying t = some d) (w : World) : (Go.underlying t).run P w = .ok d w := by
  simp [Go.underlying, h]
theorem run_sizeOf {t : TypeId} {i : TypeInfo} (h : P.info? t = some i) (w : World) : (Go.sizeOf t).run P w = .ok i.size w := by
  simp [Go.sizeOf, Go.typeInfo, h]
theorem run_typeInfo {t : TypeId} {i : TypeInfo} (h : P.info? t = some i) (w : World) : (Go.typeInfo t).run P w = .ok i w := by
  simp [Go.typeInfo, h]
theorem run_isAgg {t : TypeId} {d : TypeDesc} (h : P.underlying t = some d) (w : World) : (Go.isAgg t).run P w = .ok (isAggD d) w := by
  unfold Go.isAgg
  rw [Sem.run_bind, run_underlying h]
  cases d <;> rfl
theorem tyVar_ok (hT : TabOk P tt ft) {t : TypeId} {n : Nat} {ag : Bool} (h : tyVar tt t = some (n, ag)) :
    ∃ i d, P.info? t = some i ∧ i.size = n ∧ P.underlying t = some d ∧ isAggD d = ag ∧ (ag = false → n = 1) := by
  unfold tyVar at h
  cases hs : tySize tt t with
  | none => rw [hs] at h; cases h
  | some m =>
    rw [hs] at h
    unfold tyAgg at h
    cases hu : und tt t with
    | none => rw [hu] at h; cases h
    | some d =>
      rw [hu] at h
      obtain ⟨i, hi, hn⟩ := tySize_ok hT hs
      unfold varOf at h
      cases hg : isAggD d with
      | true =>
        simp only [hg] at h
        cases h
        exact ⟨i, d, hi, hn, und_ok hT hu, hg, by simp⟩
      | false =>
        simp only [hg] at h
        cases hb : Nat.beq m 1 with
        | false => rw [hb] at h; cases h
        | true =>
          rw [hb] at h
          cases h
          have : m = 1 := Nat.eq_of_beq_eq_true hb
          exact ⟨i, d, hi, by omega, und_ok hT hu, hg, fun _ => rfl⟩
end

/-! ## Integers -/
theorem wrapF_eq (k : IntKind) (n : Int) : wrapF k n = k.wrap n := by
  unfold wrapF
  split
  · rename_i m
    cases h : Nat.ble m 9223372036854775807 with
    | false => rfl
    | true =>
      have := Nat.le_of_ble_eq_true h
      rw [cond_true, IntKind.wrap_i64, Int.ofNat_eq_natCast]; omega
  · rename_i m
    cases h : Nat.ble m 4294967295 with
    | false => rfl
    | true =>
      have := Nat.le_of_ble_eq_true h
      rw [cond_true, IntKind.wrap_u32, Int.ofNat_eq_natCast]; omega
  · rename_i m
    cases h : Nat.ble m 18446744073709551615 with
    | false => rfl
    | true =>
      have := Nat.le_of_ble_eq_true h
      rw [cond_true, IntKind.wrap_u64, Int.ofNat_eq_natCast]; omega
  · rename_i m
    cases h : Nat.ble m 255 with
    | false => rfl
    | true =>
      have := Nat.le_of_ble_eq_true h
      rw [cond_true, IntKind.wrap_u8, Int.ofNat_eq_natCast]; omega
  · rfl
theorem ble_dec (a b : Nat) : Nat.ble a b = decide (a ≤ b) := by
  by_cases h : a ≤ b
  · rw [ble_t h]; simp [h]
  · rw [ble_f h]; simp [h]
theorem beq_dec (a b : Nat) : Nat.beq a b = decide (a = b) := by
  by_cases h : a = b
  · rw [beq_t h]; simp [h]
  · rw [beq_f h]; simp [h]
theorem ile_eq (a b : Int) : ile a b = decide (a ≤ b) := by
  unfold ile
  split <;> (try rw [ble_dec]) <;> simp <;> omega
theorem ieq_eq (a b : Int) : ieq a b = (a == b) := by
  unfold ieq
  split
  · rw [beq_dec]; rename_i m n; rw [Bool.eq_iff_iff]; simp; omega
  · rw [beq_dec]; rename_i m n; rw [Bool.eq_iff_iff]; simp
  · rename_i h1 h2
    cases a <;> cases b
    · exact absurd rfl (h1 _ _ rfl)
    · symm; simp
    · symm; simp
    · exact absurd rfl (h2 _ _ rfl)

/-! ## What a value can stand for -/
section
variable {ρ : Ren} {c : Value}
theorem VR.inv_b {x : Bool} (h : VR ρ (.b x) c) : c = .bool x := by cases h; rfl
theorem VR.inv_i {k : IntKind} {n : Int} (h : VR ρ (.i k n) c) : c = .int k n := by cases h; rfl
theorem VR.inv_f {n : Nat} (h : VR ρ (.f n) c) : ∃ w, c = .float .f64 w ∧ n = canon w := by cases h; exact ⟨_, rfl, rfl⟩
theorem VR.inv_c {a b : Nat} (h : VR ρ (.c a b) c) : ∃ x y, c = .complex .f64 x y ∧ a = canon x ∧ b = canon y := by cases h; exact ⟨_, _, rfl, rfl, rfl⟩
theorem VR.inv_p0 (h : VR ρ (.p none) c) : c = .pointer none := by cases h; rfl
theorem VR.inv_p {b o : Nat} (h : VR ρ (.p (some (b, o))) c) : ∃ I, ρ b = some I ∧ c = .pointer (some ⟨I.blk, I.base + o, none⟩) := by cases h; exact ⟨_, by assumption, rfl⟩
theorem VR.inv_s0 {l k : Nat} (h : VR ρ (.s none l k) c) : c = .slice none l k := by cases h; rfl
theorem VR.inv_s {b o l k : Nat} (h : VR ρ (.s (some (b, o)) l k) c) : ∃ I k', ρ b = some I ∧ CapOk I o k k' ∧ c = .slice (some ⟨I.blk, I.base + o, none⟩) l k' := by
  cases h; exact ⟨_, _, by assumption, by assumption, rfl⟩
theorem VR.inv_fn {f : Nat} {as cs : List V} (h : VR ρ (.fn f as cs) c) : ∃ as' cs', VRs ρ as as' ∧ VRs ρ cs cs' ∧ c = .func (.func f) as'.toArray cs'.toArray := by
  cases h; exact ⟨_, _, by assumption, by assumption, rfl⟩
theorem VR.inv_ifc {t : Nat} {v : V} (h : VR ρ (.ifc t v) c) : ∃ v', VR ρ v v' ∧ c = .iface t v' := by cases h; exact ⟨_, by assumption, rfl⟩
theorem VR.inv_agg {cs : List V} (h : VR ρ (.agg cs) c) : ∃ cs', VRs ρ cs cs' ∧ c = .agg cs'.toArray := by cases h; exact ⟨_, by assumption, rfl⟩
theorem VR.inv_tup {cs : List V} (h : VR ρ (.tup cs) c) : ∃ cs', VRs ρ cs cs' ∧ c = .tuple cs'.toArray := by cases h; exact ⟨_, by assumption, rfl⟩
theorem VR.of_f {n w : Nat} (h : n = canon w) : VR ρ (.f n) (.float .f64 w) := by subst h; exact .f w
theorem SR.inv_lp {π : Nat → Option Nat} {g o : Nat} (h : SR ρ π (.lp g o) c) : ∃ k, π g = some k ∧ c = .pointer (some ⟨k, o, none⟩) := by cases h; exact ⟨_, by assumption, rfl⟩
end

/-! ## Operations of registers alone -/
section
variable {P : Program} {ρ : Ren} {π : Nat → Option Nat}
/-- Whatever the world, a value comes of it, and memory is as it was. -/
def VOk (P : Program) (ρ : Ren) (π : Nat → Option Nat) (s : Sem Value) (r : S) : Prop := ∀ w, ∃ c w', s.run P w = .ok c w' ∧ w'.Alike w ∧ SR ρ π r c
def NOk (P : Program) (ρ : Ren) (π : Nat → Option Nat) (s : Sem Next) (r : S) : Prop := ∀ w, ∃ c w', s.run P w = .ok (.value c) w' ∧ w'.Alike w ∧ SR ρ π r c
theorem VOk.pure {c : Value} {r : S} (h : SR ρ π r c) : VOk P ρ π (pure c) r := fun w => ⟨c, w, rfl, ⟨rfl, rfl, rfl⟩, h⟩
theorem VOk.val {c : Value} {v : V} (h : VR ρ v c) : VOk P ρ π (Pure.pure c) (.v v) := VOk.pure (.v h)
theorem VOk.next {s : Sem Value} {r : S} (h : VOk P ρ π s r) : NOk P ρ π (do Pure.pure (Next.value (← s))) r := by
  intro w; obtain ⟨c, w', h1, h2, h3⟩ := h w; exact ⟨c, w', by simp [h1], h2, h3⟩
theorem NOk.pure {c : Value} {r : S} (h : SR ρ π r c) : NOk P ρ π (Pure.pure (Next.value c)) r := fun w => ⟨c, w, rfl, ⟨rfl, rfl, rfl⟩, h⟩
theorem VOk.bind {α : Type} {s : Sem α} {a : α} {f : α → Sem Value} {r : S} (hs : ∀ w, s.run P w = .ok a w) (h : VOk P ρ π (f a) r) : VOk P ρ π (s >>= f) r := by
  intro w; obtain ⟨c, w', h1, h2, h3⟩ := h w; exact ⟨c, w', by simp [hs, h1], h2, h3⟩
theorem NOk.bind {α : Type} {s : Sem α} {a : α} {f : α → Sem Next} {r : S} (hs : ∀ w, s.run P w = .ok a w) (h : NOk P ρ π (f a) r) : NOk P ρ π (s >>= f) r := by
  intro w; obtain ⟨c, w', h1, h2, h3⟩ := h w; exact ⟨c, w', by simp [hs, h1], h2, h3⟩
theorem VOk.congr {s s' : Sem Value} {r : S} (e : s = s') (h : VOk P ρ π s' r) : VOk P ρ π s r := e ▸ h
end

/-! ## Arithmetic -/
theorem nan_cut (t : Nat) : isnan ((t % 2) * 2 ^ 63 + 0x7ff0000000000000 + 1 + (t / 2) % (2 ^ 52 - 1)) = true := by
  rw [isnan_iff, frung_mod]
  have h1 : (t / 2) % (2 ^ 52 - 1) < 4503599627370495 := Nat.mod_lt _ (by decide)
  generalize (t / 2) % (2 ^ 52 - 1) = r at h1
  have e : (2 : Nat) ^ 63 = 9223372036854775808 := rfl
  rw [e]
  omega
theorem run_nan (P : Program) (x y : Nat) (w : World) : ∃ r w', (Go.choose (.nanBits .f64 x y)).run P w = .ok r w' ∧ w'.Alike w ∧ canon r = cnan :=
  ⟨_, { w with drawn := w.drawn + 1 }, by rw [Go.run_choose]; rfl, ⟨rfl, rfl, rfl⟩, canon_of_nan (nan_cut _)⟩
theorem run_nanMM (P : Program) (m : Bool) (x y : Nat) (w : World) : ∃ r w', (Go.choose (.nanMinMax .f64 m x y)).run P w = .ok r w' ∧ w'.Alike w ∧ canon r = cnan :=
  ⟨_, { w with drawn := w.drawn + 1 }, by rw [Go.run_choose]; rfl, ⟨rfl, rfl, rfl⟩, canon_of_nan (nan_cut _)⟩
theorem fneg_canon (x : Nat) : fneg (canon x) = canon (x ^^^ 2 ^ 63) := by
  have hx : isnan (x ^^^ 2 ^ 63) = isnan x := by
    have e : frung (x ^^^ 2 ^ 63) = frung x := by
      rw [frung_mod, frung_mod, show 9223372036854775808 = 2 ^ 63 from rfl, Nat.xor_mod_two_pow]
      simp
    rw [Bool.eq_iff_iff, isnan_iff, isnan_iff, e]
  unfold fneg
  rw [isnan_canon]
  cases h : isnan x with
  | true => rw [canon_of_nan (hx.trans h)]; rfl
  | false => rw [canon_of_num (hx.trans h), canon_of_num h]; rfl
section
variable {P : Program} {ρ : Ren} {π : Nat → Option Nat}
theorem orNan_canon {o : Option Nat} (hn : ∀ r, o = some r → isnan r = false) {r : Nat} (h : o = some r) : orNan o = canon r := by
  subst h; exact (canon_of_num (hn r rfl)).symm
/-- A float, or a NaN of whatever bits. -/
def fres (x y : Nat) : Option Nat → Sem Value
  | some r => Pure.pure (.float .f64 r)
  | none => do Pure.pure (.float .f64 (← Go.choose (.nanBits .f64 x y)))
theorem float_ok {x y : Nat} (o : Option Nat) (hn : ∀ r, o = some r → isnan r = false) : VOk P ρ π (fres x y o) (.v (.f (orNan o))) := by
  cases h : o with
  | some r => exact .val (VR.of_f (by rw [← h]; exact orNan_canon hn h))
  | none =>
    intro w
    obtain ⟨r, w', h1, h2, h3⟩ := run_nan P x y w
    exact ⟨_, w', by simp only [fres, Sem.run_bind, h1, Go.Result.andThen_ok]; rfl, h2, .v (VR.of_f h3.symm)⟩
theorem not_le_dec (x y : Int) : (!decide (x ≤ y)) = decide (y < x) := by
  by_cases h : x ≤ y <;> simp [h] <;> omega
theorem binI_ok {o : BinOp} {k : IntKind} {x y : Int} {v : V} (t : TypeId) (ho : o ≠ .shl ∧ o ≠ .shr) (h : binI o k x y = some v) : VOk P ρ π (Go.binOp o t (.int k x) (.int k y)) (.v v) := by
  have z : ieq y 0 = true → (bif ieq y 0 then none else some (V.i k (wrapF k (x.tdiv y)))) = none := fun h => by rw [h]; rfl
  cases o <;> simp only [binI, reduceCtorEq, wrapF_eq, ile_eq, ieq_eq, Option.some.injEq] at h
  case quo =>
    by_cases hy : y = 0
    · subst hy; simp at h
    · have : (y == 0) = false := by simp [hy]
      rw [this, cond_false] at h; cases h
      refine .congr ?_ (.val (.i k _))
      simp [Go.binOp, Go.Op.intDiv, hy]
  case rem =>
    by_cases hy : y = 0
    · subst hy; simp at h
    · have : (y == 0) = false := by simp [hy]
      rw [this, cond_false] at h; cases h
      refine .congr ?_ (.val (.i k _))
      simp [Go.binOp, Go.Op.intDiv, hy]
  all_goals (subst h)
  all_goals first
    | (refine .congr ?_ (.val (.i k _)); simp [Go.binOp, Go.Op.intArith, Go.Op.intBits]; done)
    | (refine .congr ?_ (.val (.b _)); simp [Go.binOp, Go.Op.intCmp, bne]; done)
    | (refine .congr ?_ (.val (.b _)); rw [not_le_dec]; simp [Go.binOp, Go.Op.intCmp])
theorem binF_ok {o : BinOp} {x y x' y' : Nat} {v : V} (t : TypeId) (hx : x = canon x') (hy : y = canon y') (h : binF o x y = some v) :
    VOk P ρ π (Go.binOp o t (.float .f64 x') (.float .f64 y')) (.v v) := by
  subst hx hy
  have hfmt : FloatKind.f64.format = Ieee.double := rfl
  cases o <;> simp only [binF, reduceCtorEq, Option.some.injEq] at h <;> subst h
  case add =>
    rw [← fadd_eq, add_canon]
    refine .congr ?_ (float_ok (x := x') (y := y') (Ieee.double.add x' y') fun r hr => add_num hr)
    simp only [Go.binOp, Go.Op.floatArith, hfmt, pure_bind, ne_eq, not_true_eq_false, if_false]
    cases Ieee.double.add x' y' <;> rfl
  case sub =>
    rw [← fsub_eq, sub_canon]
    refine .congr ?_ (float_ok (x := x') (y := y') (Ieee.double.sub x' y') fun r hr => sub_num hr)
    simp only [Go.binOp, Go.Op.floatArith, hfmt, pure_bind, ne_eq, not_true_eq_false, if_false]
    cases Ieee.double.sub x' y' <;> rfl
  case mul =>
    rw [← fmul_eq, mul_canon]
    refine .congr ?_ (float_ok (x := x') (y := y') (Ieee.double.mul x' y') fun r hr => mul_num hr)
    simp only [Go.binOp, Go.Op.floatArith, hfmt, pure_bind, ne_eq, not_true_eq_false, if_false]
    cases Ieee.double.mul x' y' <;> rfl
  case quo =>
    rw [← fdiv_eq, div_canon]
    refine .congr ?_ (float_ok (x := x') (y := y') (Ieee.double.div x' y') fun r hr => div_num hr)
    simp only [Go.binOp, Go.Op.floatArith, hfmt, pure_bind, ne_eq, not_true_eq_false, if_false]
    cases Ieee.double.div x' y' <;> rfl
  all_goals
    refine .congr ?_ (.val (.b _))
    simp only [← feq_eq, ← flt_eq, ← fgt_eq, ← fle_eq, ← fge_eq, order_canon]
    simp [Go.binOp, Go.Op.floatCmp, hfmt, bne]
theorem shiftI_ok {o : BinOp} {k k' : IntKind} {x y : Int} {v : V} (t : TypeId) (ho : o = .shl ∨ o = .shr) (h : shiftI o k x y = some v) : VOk P ρ π (Go.binOp o t (.int k x) (.int k' y)) (.v v) := by
  unfold shiftI at h
  cases y with
  | negSucc y => cases h
  | ofNat y =>
    have en : (bif Nat.ble y k.bits then y else k.bits) = min y k.bits := by
      rw [ble_dec]; by_cases hy : y ≤ k.bits <;> simp [hy] <;> omega
    simp only [en] at h
    rcases ho with rfl | rfl <;> (simp only [Option.some.injEq, wrapF_eq] at h; subst h; refine .congr ?_ (.val (.i k _)); simp [Go.binOp, Go.Op.shift]; intro h; omega)
theorem binC_ok {a b a' b' x y x' y' : Nat} (neg : Bool) (t : TypeId) (h1 : a = canon x) (h2 : b = canon y) (h3 : a' = canon x') (h4 : b' = canon y') :
    VOk P ρ π (Go.binOp (bif neg then .neq else .eql) t (.complex .f64 x y) (.complex .f64 x' y')) (.v (.b (bif neg then !(feq a a' && feq b b') else (feq a a' && feq b b')))) := by
  subst h1 h2 h3 h4
  have hfmt : FloatKind.f64.format = Ieee.double := rfl
  have e : ∀ u v, feq (canon u) (canon v) = (Ieee.double.order u v == some .eq) := fun u v => by rw [← feq_eq, order_canon]
  cases neg <;> (refine .congr ?_ (.val (.b _)); simp [Go.binOp, Go.Op.complexOp, Go.Op.Complex.cmp, Go.Op.floatCmp, hfmt, e, Go.asBool])
theorem binV_ok {o : BinOp} {x y v : V} {c d : Value} (t : TypeId) (hx : VR ρ x c) (hy : VR ρ y d) (h : binV o x y = some v) : VOk P ρ π (Go.binOp o t c d) (.v v) := by
  unfold binV at h
  split at h
  · rename_i k a k' b
    rw [hx.inv_i, hy.inv_i]
    split at h
    · exact shiftI_ok t (.inl rfl) h
    · exact shiftI_ok t (.inr rfl) h
    · split at h
      · rename_i h1 h2 hk; subst hk
        exact binI_ok t ⟨h1, h2⟩ h
      · cases h
  · obtain ⟨x', rfl, e1⟩ := hx.inv_f
    obtain ⟨y', rfl, e2⟩ := hy.inv_f
    exact binF_ok t e1 e2 h
  · obtain ⟨x', y', rfl, e1, e2⟩ := hx.inv_c
    obtain ⟨x2, y2, rfl, e3, e4⟩ := hy.inv_c
    split at h
    · cases h; exact binC_ok false t e1 e2 e3 e4
    · cases h; exact binC_ok true t e1 e2 e3 e4
    · cases h
  · cases h
theorem unV_ok {o : UnOp} {x v : V} {c : Value} (hx : VR ρ x c) (h : unV o x = some v) : VOk P ρ π (Go.Op.unary o c) (.v v) := by
  unfold unV at h
  split at h
  · rw [hx.inv_i]; cases h
    rw [wrapF_eq]; exact .congr rfl (.val (.i _ _))
  · obtain ⟨w, rfl, rfl⟩ := hx.inv_f
    cases h
    exact .congr rfl (.val (VR.of_f (fneg_canon w)))
  · rw [hx.inv_b]; cases h; exact .congr rfl (.val (.b _))
  · cases h
end

/-! ## Rows of cells -/
theorem cut_some {cs : List V} {off n : Nat} {l : List V} (h : cut cs off n = some l) : n ≤ cs.length - off ∧ l = (cs.drop off).take n := by
  unfold cut at h
  rw [dropX_eq, takeX_eq] at h
  by_cases hn : n ≤ (cs.drop off).length
  · rw [if_pos hn] at h; cases h
    exact ⟨by simpa using hn, rfl⟩
  · rw [if_neg hn] at h; cases h
section
variable {P : Program} {tt : TT} {ft : FT} {ρ : Ren} {π : Nat → Option Nat}
/-- A variable's value out of a row of cells that another row tells. -/
theorem part_ok (hT : TabOk P tt ft) {t : TypeId} {n off : Nat} {ag : Bool} (ht : tyVar tt t = some (n, ag)) {cs : List V} {cc : List Value} (hr : VRs ρ cs cc)
    {v : V} (hv : cutV cs off n ag = some v) (w : World) : ∃ c, (Go.part t cc.toArray off).run P w = .ok c w ∧ VR ρ v c := by
  obtain ⟨i, d, hi, hn, hu, hg, h1⟩ := tyVar_ok hT ht
  unfold Go.part
  rw [Sem.run_bind, run_isAgg hu, Go.Result.andThen_ok]
  cases ag with
  | true =>
    rw [hg]
    simp only [cutV] at hv
    cases hc : cut cs off n with
    | none => rw [hc] at hv; cases hv
    | some l =>
      rw [hc] at hv; cases hv
      obtain ⟨hle, rfl⟩ := cut_some hc
      refine ⟨.agg (((cc.drop off).take n).toArray), ?_, .agg ((hr.drop off).take n)⟩
      simp only [if_true, Sem.run_bind, run_sizeOf hi, Go.Result.andThen_ok, Sem.run_pure, hn]
      congr 1
      congr 1
      apply Array.ext'
      simp [List.extract]
  | false =>
    rw [hg]
    simp only [cutV, nth_eq] at hv
    obtain ⟨c, hc, hvr⟩ := hr.get off v hv
    refine ⟨c, ?_, hvr⟩
    simp only [Bool.false_eq_true, if_false, List.getElem?_toArray, hc, Sem.run_pure]
theorem part_vok (hT : TabOk P tt ft) {t : TypeId} {n off : Nat} {ag : Bool} (ht : tyVar tt t = some (n, ag)) {cs : List V} {cc : List Value} (hr : VRs ρ cs cc)
    {v : V} (hv : cutV cs off n ag = some v) : VOk P ρ π (Go.part t cc.toArray off) (.v v) := fun w => by
  obtain ⟨c, h1, h2⟩ := part_ok hT ht hr hv w
  exact ⟨c, w, h1, ⟨rfl, rfl, rfl⟩, .v h2⟩

/-! ## Equality -/
theorem eqCell_ok {t : TypeId} {d : TypeDesc} {k : Lk} (hu : P.underlying t = some d)
    (hk : match k with | .b => d = .bool | .i => ∃ k, d = .int k | .f => ∃ k, d = .float k | .c => ∃ k, d = .complex k) {x y : V} {c e : Value} (hx : VR ρ x c) (hy : VR ρ y e)
    {r : Bool} (h : eqCell k x y = some r) (n : Nat) (w : World) : (Go.Op.equalIn (n + 1) t c e).run P w = .ok r w := by
  unfold eqCell at h
  split at h
  · cases h
    rw [hx.inv_b, hy.inv_b]
    simp only at hk; subst hk
    simp [Go.Op.equalIn, run_underlying hu]
    cases ‹Bool› <;> cases ‹Bool› <;> rfl
  · split at h
    · rename_i hk2; subst hk2; cases h
      rw [hx.inv_i, hy.inv_i, ieq_eq]
      obtain ⟨k, rfl⟩ := hk
      simp [Go.Op.equalIn, run_underlying hu]
    · cases h
  · cases h
    obtain ⟨a, rfl, rfl⟩ := hx.inv_f
    obtain ⟨b, rfl, rfl⟩ := hy.inv_f
    obtain ⟨k, rfl⟩ := hk
    simp [Go.Op.equalIn, run_underlying hu, Go.Op.floatEq, FloatKind.format, ← feq_eq, order_canon]
  · cases h
    obtain ⟨a, a', rfl, rfl, rfl⟩ := hx.inv_c
    obtain ⟨b, b', rfl, rfl, rfl⟩ := hy.inv_c
    obtain ⟨k, rfl⟩ := hk
    simp [Go.Op.equalIn, run_underlying hu, Go.Op.floatEq, FloatKind.format, ← feq_eq, order_canon]
  · cases h
theorem eqF_ok (hT : TabOk P tt ft) {rec : TypeId → Option Sh} {n : Nat}
    (hrec : ∀ t sh x y c e r w, rec t = some sh → VR ρ x c → VR ρ y e → sh.eq x y = some r → (Go.Op.equalIn n t c e).run P w = .ok r w) :
    ∀ (fs : List Go.Field) (ps : List (Nat × Nat × Bool × Sh)) (xs ys : List V) (cs es : List Value) (r : Bool) (w : World), eqF tt rec fs = some ps → VRs ρ xs cs → VRs ρ ys es →
      Sh.eq.eqs ps xs ys = some r → (Go.Op.eqFields n cs.toArray es.toArray fs).run P w = .ok r w := by
  intro fs
  induction fs with
  | nil =>
    intro ps xs ys cs es r w hp _ _ hr
    simp only [eqF, Option.some.injEq] at hp; subst hp
    simp only [Sh.eq.eqs, Option.some.injEq] at hr; subst hr
    rfl
  | cons f fs ih =>
    intro ps xs ys cs es r w hp hxs hys hr
    simp only [eqF] at hp
    cases hn : decide (f.name = "_") with
    | true => rw [hn] at hp; cases hp
    | false =>
      rw [hn, cond_false] at hp
      have hne : f.name ≠ "_" := of_decide_eq_false hn
      cases hv : tyVar tt f.type with
      | none => rw [hv] at hp; cases hp
      | some q =>
        obtain ⟨m, ag⟩ := q
        rw [hv] at hp
        simp only at hp
        cases hs : rec f.type with
        | none => rw [hs] at hp; cases hp
        | some sh =>
          rw [hs] at hp
          simp only [consO_map, Option.map_eq_some_iff] at hp
          obtain ⟨ps', hps, rfl⟩ := hp
          simp only [Sh.eq.eqs] at hr
          cases hx : cutV xs f.offset m ag with
          | none => rw [hx] at hr; cases hr
          | some x =>
            cases hy : cutV ys f.offset m ag with
            | none => rw [hx, hy] at hr; cases hr
            | some y =>
              rw [hx, hy] at hr
              simp only at hr
              obtain ⟨c, hc, hxc⟩ := part_ok hT hv hxs hx w
              obtain ⟨e, he, hye⟩ := part_ok hT hv hys hy w
              simp only [Go.Op.eqFields, if_pos hne, Sem.run_bind, hc, he, Go.Result.andThen_ok]
              cases hq : sh.eq x y with
              | none => rw [hq] at hr; cases hr
              | some b =>
                rw [hq] at hr
                rw [hrec f.type sh x y c e b w hs hxc hye hq, Go.Result.andThen_ok]
                cases b with
                | true =>
                  simp only at hr
                  simp only [Bool.not_true, Bool.false_eq_true, if_false]
                  exact ih ps' xs ys cs es r w hps hxs hys hr
                | false => cases hr; rfl
/-- The elements of an array, compared from one on. -/
def eqElems (n : Nat) (t : TypeId) (xs ys : Array Value) (sz : Nat) : List Nat → Sem Bool
  | [] => Pure.pure true
  | i :: is => do
    let a ← Go.part t xs (i * sz)
    let b ← Go.part t ys (i * sz)
    let r ← Go.Op.equalIn n t a b
    if (!r) = true then Pure.pure false else eqElems n t xs ys sz is
theorem eqE_ok (hT : TabOk P tt ft) {t : TypeId} {sh : Sh} {n m : Nat} {ag : Bool} (hv : tyVar tt t = some (m, ag))
    (hrec : ∀ x y c e r w, VR ρ x c → VR ρ y e → sh.eq x y = some r → (Go.Op.equalIn n t c e).run P w = .ok r w) {xs ys : List V} {cs es : List Value} (hxs : VRs ρ xs cs) (hys : VRs ρ ys es) :
    ∀ (is : List Nat) (r : Bool) (w : World), Sh.eq.eqs (is.map fun i => (i * m, m, ag, sh)) xs ys = some r → (eqElems n t cs.toArray es.toArray m is).run P w = .ok r w := by
  intro is
  induction is with
  | nil =>
    intro r w hr
    simp only [List.map_nil, Sh.eq.eqs, Option.some.injEq] at hr; subst hr; rfl
  | cons i is ih =>
    intro r w hr
    simp only [List.map_cons, Sh.eq.eqs] at hr
    cases hx : cutV xs (i * m) m ag with
    | none => rw [hx] at hr; cases hr
    | some x =>
      cases hy : cutV ys (i * m) m ag with
      | none => rw [hx, hy] at hr; cases hr
      | some y =>
        rw [hx, hy] at hr
        simp only at hr
        obtain ⟨c, hc, hxc⟩ := part_ok hT hv hxs hx w
        obtain ⟨e, he, hye⟩ := part_ok hT hv hys hy w
        simp only [eqElems, Sem.run_bind, hc, he, Go.Result.andThen_ok]
        cases hq : sh.eq x y with
        | none => rw [hq] at hr; cases hr
        | some b =>
          rw [hq] at hr
          rw [hrec x y c e b w hxc hye hq, Go.Result.andThen_ok]
          cases b with
          | true =>
            simp only at hr
            simp only [Bool.not_true, Bool.false_eq_true, if_false]
            exact ih r w hr
          | false => cases hr; rfl
theorem run_elems {n : Nat} {t : TypeId} {xs ys : Array Value} {sz : Nat} : ∀ (is : List Nat) (w : World),
    ((forIn is ((none, ()) : Option Bool × Unit) fun i _ => (do
      let a ← Go.part t xs (i * sz)
      let b ← Go.part t ys (i * sz)
      let x ← Go.Op.equalIn n t a b
      if (!x) = true then Pure.pure (ForInStep.done (some false, ())) else Pure.pure (ForInStep.yield (none, ())) : Sem (ForInStep (Option Bool × Unit)))).run P w).andThen (fun r w => .ok (r.1.getD true) w) =
      (eqElems n t xs ys sz is).run P w
  | [], w => by simp [eqElems]
  | i :: is, w => by
    simp only [List.forIn_cons, eqElems, Sem.run_bind]
    generalize (Go.part t xs (i * sz)).run P w = r1
    cases r1 with
    | halt x w1 => rfl
    | ok a w1 =>
      simp only [Go.Result.andThen_ok]
      generalize (Go.part t ys (i * sz)).run P w1 = r2
      cases r2 with
      | halt x w2 => rfl
      | ok b w2 =>
        simp only [Go.Result.andThen_ok]
        generalize (Go.Op.equalIn n t a b).run P w2 = r3
        cases r3 with
        | halt x w3 => rfl
        | ok r w3 =>
          simp only [Go.Result.andThen_ok]
          cases r
          · simp
          · simp only [Bool.not_true, Bool.false_eq_true, if_false, Sem.run_pure, Go.Result.andThen_ok]
            exact run_elems is w3
theorem run_equalIn_array {d len : Nat} {t e : TypeId} {i : TypeInfo} {xs ys : Array Value} (ht : P.underlying t = some (.array len e)) (hi : P.info? e = some i) (w : World) :
    (Go.Op.equalIn (d + 1) t (.agg xs) (.agg ys)).run P w = (eqElems d e xs ys i.size (List.range len)).run P w := by
  rw [← run_elems, List.range_eq_range']
  simp only [Go.Op.equalIn, Sem.run_bind, run_underlying ht, Go.Result.andThen_ok, run_sizeOf hi]
  rw [Std.Legacy.Range.forIn_eq_forIn_range']
  simp only [Std.Legacy.Range.size, Nat.sub_zero, Nat.add_sub_cancel, Nat.div_one]
  congr 1
  funext a w
  obtain ⟨a, _⟩ := a
  cases a <;> rfl
theorem Sh.node_some {ps : List (Nat × Nat × Bool × Sh)} {x y : V} {r : Bool} (h : (Sh.node ps).eq x y = some r) : ∃ xs ys, x = .agg xs ∧ y = .agg ys ∧ Sh.eq.eqs ps xs ys = some r := by
  cases x <;> first | (cases h; done) | skip
  cases y <;> first | (cases h; done) | skip
  exact ⟨_, _, rfl, rfl, h⟩
theorem eqSh_ok (hT : TabOk P tt ft) : ∀ (d n : Nat), d ≤ n → ∀ (t : TypeId) (sh : Sh) (x y : V) (c e : Value) (r : Bool) (w : World), eqSh P tt d t = some sh → VR ρ x c → VR ρ y e →
    sh.eq x y = some r → (Go.Op.equalIn n t c e).run P w = .ok r w := by
  intro d
  induction d with
  | zero => intro n _ t sh x y c e r w hs; cases hs
  | succ d ih =>
    intro n hn t sh x y c e r w hs hx hy hr
    obtain ⟨n, rfl⟩ : ∃ m, n = m + 1 := ⟨n - 1, by omega⟩
    simp only [eqSh] at hs
    split at hs
    · rename_i hu
      cases hs; exact eqCell_ok (k := .b) (und_ok hT hu) rfl hx hy hr n w
    · rename_i hu
      cases hs; exact eqCell_ok (k := .i) (und_ok hT hu) ⟨_, rfl⟩ hx hy hr n w
    · rename_i hu
      cases hs; exact eqCell_ok (k := .f) (und_ok hT hu) ⟨_, rfl⟩ hx hy hr n w
    · rename_i hu
      cases hs; exact eqCell_ok (k := .c) (und_ok hT hu) ⟨_, rfl⟩ hx hy hr n w
    · rename_i fs hu
      cases hp : P.stoodInHeld t with
      | true => rw [hp] at hs; cases hs
      | false =>
        rw [hp, cond_false] at hs
        unfold mapSh at hs
        cases hf : eqF tt (eqSh P tt d) fs.toList with
        | none => rw [hf] at hs; cases hs
        | some ps =>
          rw [hf] at hs; cases hs
          obtain ⟨xs, ys, rfl, rfl, hr⟩ := Sh.node_some hr
          obtain ⟨cs, hcs, rfl⟩ := hx.inv_agg
          obtain ⟨es, hes, rfl⟩ := hy.inv_agg
          have hu' := und_ok hT hu
          have hfs : P.fieldsOf t = fs := by unfold Program.fieldsOf; rw [hu']
          rw [Go.run_equalIn_struct w n t _ _ (by rw [hfs]; exact hu') hp, hfs]
          exact eqF_ok hT (fun t sh x y c e r w => ih n (by omega) t sh x y c e r w) fs.toList ps xs ys cs es r w hf hcs hes hr
    · rename_i len el hu
      cases hv : tyVar tt el with
      | none => rw [hv] at hs; cases hs
      | some q =>
        obtain ⟨m, ag⟩ := q
        rw [hv] at hs
        simp only at hs
        cases hsh : eqSh P tt d el with
        | none => rw [hsh] at hs; cases hs
        | some sh' =>
          rw [hsh] at hs; cases hs
          obtain ⟨i, _, hi, hm, _⟩ := tyVar_ok hT hv
          obtain ⟨xs, ys, rfl, rfl, hr⟩ := Sh.node_some hr
          obtain ⟨cs, hcs, rfl⟩ := hx.inv_agg
          obtain ⟨es, hes, rfl⟩ := hy.inv_agg
          rw [run_equalIn_array (und_ok hT hu) hi, hm]
          exact eqE_ok hT hv (fun x y c e r w => ih n (by omega) el sh' x y c e r w hsh) hcs hes (List.range len) r w hr
    · cases hs
end
end Am
