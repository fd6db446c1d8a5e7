/-
Regions whose order is open.
-/
import Derived.Test.YtimngjghbojjlaaGreatAmSimS
namespace Am
open Go (IntKind FloatKind BinOp UnOp Value Addr World Program Act Oper Op Operand TypeDesc TypeInfo TypeId Sem Result Next execOp Func Builtin Exit Ending Calls)

/-! ## Views: what stands somewhere when some of the operations have been done -/
section
variable {α : Type}
open Classical in
noncomputable def vw (e : Nat → Bool) (W : Nat → Prop) (init : α) (new : Nat → α) : Nat → α
  | 0 => init
  | j + 1 => if e j = true ∧ W j then new j else vw e W init new j
variable {e e' : Nat → Bool} {W : Nat → Prop} {init : α} {new : Nat → α}
theorem vw_succ_pos {j : Nat} (h : e j = true ∧ W j) : vw e W init new (j + 1) = new j := by simp only [vw]; rw [if_pos h]
theorem vw_succ_neg {j : Nat} (h : ¬ (e j = true ∧ W j)) : vw e W init new (j + 1) = vw e W init new j := by simp only [vw]; rw [if_neg h]
theorem vw_before (j : Nat) (h : ∀ k, k < j → W k → e k = true) : vw e W init new j = vw (fun _ => true) W init new j := by
  induction j with
  | zero => rfl
  | succ j ih =>
    have ih := ih fun k hk => h k (by omega)
    by_cases hw : W j
    · rw [vw_succ_pos ⟨h j (by omega) hw, hw⟩, vw_succ_pos ⟨rfl, hw⟩]
    · rw [vw_succ_neg (fun c => hw c.2), vw_succ_neg (fun c => hw c.2), ih]
theorem vw_after (j n : Nat) (hjn : j ≤ n) (h : ∀ k, j ≤ k → k < n → e k = true → ¬ W k) : vw e W init new n = vw e W init new j := by
  induction n with
  | zero => have : j = 0 := by omega
            subst this; rfl
  | succ n ih =>
    rcases Nat.lt_or_ge n j with k | k
    · have : j = n + 1 := by omega
      subst this; rfl
    · rw [vw_succ_neg (fun c => h n k (by omega) c.1 c.2)]
      exact ih k fun k' h1 h2 => h k' h1 (by omega)
/-- What stands there ahead of an operation that looks there. -/
theorem vw_at (j n : Nat) (hjn : j ≤ n) (h1 : ∀ k, k < j → W k → e k = true) (h2 : ∀ k, j ≤ k → k < n → e k = true → ¬ W k) : vw e W init new n = vw (fun _ => true) W init new j := by
  rw [vw_after j n hjn h2, vw_before j h1]
theorem vw_skip (j : Nat) (he : ∀ k, k ≠ j → e' k = e k) (hW : ¬ W j) (n : Nat) : vw e' W init new n = vw e W init new n := by
  induction n with
  | zero => rfl
  | succ n ih =>
    by_cases hn : n = j
    · subst hn; rw [vw_succ_neg (fun c => hW c.2), vw_succ_neg (fun c => hW c.2), ih]
    · by_cases hw : e n = true ∧ W n
      · rw [vw_succ_pos (by rw [he n hn]; exact hw), vw_succ_pos hw]
      · rw [vw_succ_neg (by rw [he n hn]; exact hw), vw_succ_neg hw, ih]
theorem vw_set (j n : Nat) (hjn : j < n) (he : ∀ k, k ≠ j → e' k = e k) (hj : e' j = true) (hW : W j) (h : ∀ k, j < k → k < n → e k = true → ¬ W k) : vw e' W init new n = new j := by
  rw [vw_after (j + 1) n hjn fun k h1 h2 h3 => h k h1 h2 (by rw [← he k (by omega)]; exact h3), vw_succ_pos ⟨hj, hW⟩]
end

/-! ## Who stands before whom -/
theorem sub_bit {a b i : Nat} (h : sub a b = true) (hi : a.testBit i = true) : b.testBit i = true := by
  unfold sub at h
  have e : a ||| b = b := Nat.eq_of_beq_eq_true h
  rw [← e, Nat.testBit_or, hi]; rfl
theorem or_bit {a i j : Nat} : (a ||| 2 ^ j).testBit i = (a.testBit i || decide (j = i)) := by rw [Nat.testBit_or, Nat.testBit_two_pow]
/-- What the history knows of an operation. -/
def Knows (h : Hist) (i : Nat) : Fx → Prop
  | .pu => True
  | .bx g w => (g, i, w) ∈ h.bs
  | .hs l => h.hr.testBit i = true ∧ (l.any (·.2) = true → h.hw.testBit i = true) ∧ ∀ p ∈ l, (p.1, i, p.2) ∈ h.es
  | .ha w => h.hr.testBit i = true ∧ h.cr.testBit i = true ∧ (w = true → h.hw.testBit i = true ∧ h.cw.testBit i = true)
theorem add_self {h h' : Hist} {j pre : Nat} {fx : Fx} (ha : h.add j pre fx = some h') : Knows h' j fx := by
  cases fx with
  | pu => trivial
  | bx g w =>
    simp only [Hist.add] at ha
    cases hb : apartFrom pre g w h.bs with
    | false => rw [hb] at ha; cases ha
    | true => rw [hb, cond_true] at ha; cases ha; simp [Knows]
  | hs l =>
    simp only [Hist.add] at ha
    generalize (sub h.cw pre && (!l.any (·.2) || sub h.cr pre) && l.all (fun e => apartFrom pre e.1 e.2 h.es)) = q at ha
    cases q with
    | false => cases ha
    | true =>
      rw [cond_true] at ha; cases ha
      refine ⟨by rw [or_bit]; simp, fun hw => ?_, fun p hp => ?_⟩
      · simp only [hw, cond_true]; rw [or_bit]; simp
      · simp only [List.mem_append, List.mem_map]
        exact .inl ⟨p, hp, rfl⟩
  | ha w =>
    simp only [Hist.add] at ha
    generalize sub (bif w then h.hr else h.hw) pre = q at ha
    cases q with
    | false => cases ha
    | true =>
      rw [cond_true] at ha; cases ha
      refine ⟨by rw [or_bit]; simp, by rw [or_bit]; simp, fun hw => ?_⟩
      subst hw
      simp only [cond_true]
      exact ⟨by rw [or_bit]; simp, by rw [or_bit]; simp⟩
theorem add_keep {h h' : Hist} {j pre : Nat} {fx : Fx} (ha : h.add j pre fx = some h') {i : Nat} {fi : Fx} (hk : Knows h i fi) : Knows h' i fi := by
  have up : ∀ {x y : Nat} {b : Bool}, x.testBit i = true → (bif b then x ||| 2 ^ y else x).testBit i = true := fun {x y b} hx => by
    cases b with
    | false => exact hx
    | true => rw [cond_true, or_bit, hx]; rfl
  have up' : ∀ {x y : Nat}, x.testBit i = true → (x ||| 2 ^ y).testBit i = true := fun {x y} hx => by rw [or_bit, hx]; rfl
  cases fx with
  | pu => simp only [Hist.add] at ha; cases ha; exact hk
  | bx g w =>
    simp only [Hist.add] at ha
    cases hb : apartFrom pre g w h.bs with
    | false => rw [hb] at ha; cases ha
    | true =>
      rw [hb, cond_true] at ha; cases ha
      cases fi with
      | bx g' w' => exact List.mem_cons_of_mem _ hk
      | _ => exact hk
  | hs l =>
    simp only [Hist.add] at ha
    generalize (sub h.cw pre && (!l.any (·.2) || sub h.cr pre) && l.all (fun e => apartFrom pre e.1 e.2 h.es)) = q at ha
    cases q with
    | false => cases ha
    | true =>
      rw [cond_true] at ha; cases ha
      cases fi with
      | pu => trivial
      | bx g' w' => exact hk
      | hs l' => exact ⟨up' hk.1, fun hw => up (hk.2.1 hw), fun p hp => List.mem_append_right _ (hk.2.2 p hp)⟩
      | ha w' => exact ⟨up' hk.1, hk.2.1, fun hw => ⟨up (hk.2.2 hw).1, (hk.2.2 hw).2⟩⟩
  | ha w =>
    simp only [Hist.add] at ha
    generalize sub (bif w then h.hr else h.hw) pre = q at ha
    cases q with
    | false => cases ha
    | true =>
      rw [cond_true] at ha; cases ha
      cases fi with
      | pu => trivial
      | bx g' w' => exact hk
      | hs l' => exact ⟨up' hk.1, fun hw => up (hk.2.1 hw), hk.2.2⟩
      | ha w' => exact ⟨up' hk.1, up' hk.2.1, fun hw => ⟨up (hk.2.2 hw).1, up (hk.2.2 hw).2⟩⟩
theorem apart_bit {pre g : Nat} {w : Bool} {l : List (Nat × Nat × Bool)} (h : apartFrom pre g w l = true) {i : Nat} {w' : Bool} (hm : (g, i, w') ∈ l) (hw : w = true ∨ w' = true) : pre.testBit i = true := by
  unfold apartFrom at h
  rw [List.all_eq_true] at h
  have := h _ hm
  have hq : (Nat.beq g g && (w || w')) = true := by rw [Nat.beq_refl]; rcases hw with rfl | rfl <;> simp
  simp only [hq, cond_true] at this
  exact this
/-- Two operations that clash at a block: the later one stands behind the earlier one. -/
theorem add_heap {h h' : Hist} {j pre : Nat} {fx : Fx} (ha : h.add j pre fx = some h') {i : Nat} {fi : Fx} (hk : Knows h i fi) :
    (∀ l l' b w w', fx = .hs l → fi = .hs l' → (b, w) ∈ l → (b, w') ∈ l' → w = true ∨ w' = true → pre.testBit i = true) ∧
    (∀ l, fx = .hs l → fi = .ha true → pre.testBit i = true) ∧ (∀ l b w, fx = .hs l → fi = .ha w → (b, true) ∈ l → pre.testBit i = true) ∧
    (∀ l', fx = .ha true → fi = .hs l' → pre.testBit i = true) ∧ (∀ l' b w, fx = .ha w → fi = .hs l' → (b, true) ∈ l' → pre.testBit i = true) ∧
    (∀ w, fx = .ha true → fi = .ha w → pre.testBit i = true) ∧ (∀ w, fx = .ha w → fi = .ha true → pre.testBit i = true) ∧
    (∀ g w w', fx = .bx g w → fi = .bx g w' → w = true ∨ w' = true → pre.testBit i = true) := by
  have any : ∀ {l : List (Nat × Bool)} {b : Nat}, (b, true) ∈ l → l.any (·.2) = true := fun {l b} hm => List.any_eq_true.2 ⟨_, hm, rfl⟩
  refine ⟨?_, ?_, ?_, ?_, ?_, ?_, ?_, ?_⟩
  · rintro l l' b w w' rfl rfl h1 h2 hw
    simp only [Hist.add] at ha
    cases hq : (sub h.cw pre && (!l.any (·.2) || sub h.cr pre) && l.all (fun e => apartFrom pre e.1 e.2 h.es)) with
    | false => rw [hq] at ha; cases ha
    | true =>
      rw [Bool.and_eq_true, List.all_eq_true] at hq
      exact apart_bit (hq.2 (b, w) h1) (hk.2.2 (b, w') h2) hw
  · rintro l rfl rfl
    simp only [Hist.add] at ha
    cases hq : (sub h.cw pre && (!l.any (·.2) || sub h.cr pre) && l.all (fun e => apartFrom pre e.1 e.2 h.es)) with
    | false => rw [hq] at ha; cases ha
    | true =>
      rw [Bool.and_eq_true, Bool.and_eq_true] at hq
      exact sub_bit hq.1.1 (hk.2.2 rfl).2
  · rintro l b w rfl rfl h1
    simp only [Hist.add] at ha
    cases hq : (sub h.cw pre && (!l.any (·.2) || sub h.cr pre) && l.all (fun e => apartFrom pre e.1 e.2 h.es)) with
    | false => rw [hq] at ha; cases ha
    | true =>
      rw [Bool.and_eq_true, Bool.and_eq_true, any h1] at hq
      exact sub_bit (by simpa using hq.1.2) hk.2.1
  · rintro l' rfl rfl
    simp only [Hist.add, cond_true] at ha
    cases hq : sub h.hr pre with
    | false => rw [hq] at ha; cases ha
    | true => exact sub_bit hq hk.1
  · rintro l' b w rfl rfl h1
    simp only [Hist.add] at ha
    cases hq : sub (bif w then h.hr else h.hw) pre with
    | false => rw [hq] at ha; cases ha
    | true =>
      cases w with
      | true => exact sub_bit hq hk.1
      | false => exact sub_bit hq (hk.2.1 (any h1))
  · rintro w rfl rfl
    simp only [Hist.add, cond_true] at ha
    cases hq : sub h.hr pre with
    | false => rw [hq] at ha; cases ha
    | true => exact sub_bit hq hk.1
  · rintro w rfl rfl
    simp only [Hist.add] at ha
    cases hq : sub (bif w then h.hr else h.hw) pre with
    | false => rw [hq] at ha; cases ha
    | true =>
      cases w with
      | true => exact sub_bit hq hk.1
      | false => exact sub_bit hq (hk.2.2 rfl).1
  · rintro g w w' rfl rfl hw
    simp only [Hist.add] at ha
    cases hb : apartFrom pre g w h.bs with
    | false => rw [hb] at ha; cases ha
    | true => exact apart_bit hb hk hw

/-! ## What the translation has looked at -/
/-- What the translation carries along a region. -/
structure CS where
  i : Nat
  ws : Ws
  acc : List Nat
  rw : List (Nat × Nat)
def CS.next (s : CS) (o : Oper) : CS := ⟨s.i + 1, o.dst :: s.ws, s.acc ++ [preOf s.acc o], (readsOf s.ws s.i o, dstBit o.dst) :: s.rw⟩
def CS.init : CS := ⟨0, [], [], []⟩
def csAt (ops : List Oper) (j : Nat) : CS := (ops.take j).foldl CS.next CS.init
theorem csAt_succ {ops : List Oper} {j : Nat} {o : Oper} (h : ops[j]? = some o) : csAt ops (j + 1) = (csAt ops j).next o := by
  unfold csAt
  rw [List.take_add_one, h, List.foldl_append]; rfl
theorem csAt_i {ops : List Oper} : ∀ {j : Nat}, j ≤ ops.length → (csAt ops j).i = j
  | 0, _ => rfl
  | j + 1, h => by
    rw [csAt_succ (List.getElem?_eq_getElem (by omega : j < ops.length))]
    show (csAt ops j).i + 1 = j + 1
    rw [csAt_i (by omega)]
theorem csAt_ws {ops : List Oper} : ∀ {j : Nat}, j ≤ ops.length → ∀ k, k < j → ∀ o, ops[k]? = some o → (csAt ops j).ws[j - 1 - k]? = some o.dst
  | 0, _, k, hk, _, _ => by omega
  | j + 1, h, k, hk, o, ho => by
    have hj : ops[j]? = some ops[j] := List.getElem?_eq_getElem (by omega)
    rw [csAt_succ hj]
    show (ops[j].dst :: (csAt ops j).ws)[j + 1 - 1 - k]? = some o.dst
    by_cases e : k = j
    · subst e
      rw [hj] at ho; cases ho
      have : k + 1 - 1 - k = 0 := by omega
      rw [this]; rfl
    · have : j + 1 - 1 - k = (j - 1 - k) + 1 := by omega
      rw [this, List.getElem?_cons_succ]
      exact csAt_ws (by omega) k (by omega) o ho
theorem csAt_wslen {ops : List Oper} : ∀ {j : Nat}, j ≤ ops.length → (csAt ops j).ws.length = j
  | 0, _ => rfl
  | j + 1, h => by
    rw [csAt_succ (List.getElem?_eq_getElem (by omega : j < ops.length))]
    show (csAt ops j).ws.length + 1 = j + 1
    rw [csAt_wslen (by omega)]
noncomputable def prAt (ops : List Oper) (j : Nat) : Nat := match ops[j]? with | some o => preOf (csAt ops j).acc o | none => 0
noncomputable def rdAt (ops : List Oper) (j : Nat) : Nat := match ops[j]? with | some o => readsOf (csAt ops j).ws j o | none => 0
theorem csAt_acc {ops : List Oper} : ∀ {j : Nat}, j ≤ ops.length → (csAt ops j).acc.length = j ∧ ∀ k, k < j → (csAt ops j).acc[k]? = some (prAt ops k)
  | 0, _ => ⟨rfl, fun k hk => by omega⟩
  | j + 1, h => by
    have hj : ops[j]? = some ops[j] := List.getElem?_eq_getElem (by omega)
    obtain ⟨h1, h2⟩ := csAt_acc (ops := ops) (j := j) (by omega)
    rw [csAt_succ hj]
    refine ⟨?_, fun k hk => ?_⟩
    · show ((csAt ops j).acc ++ [preOf (csAt ops j).acc ops[j]]).length = j + 1
      simp [h1]
    · show ((csAt ops j).acc ++ [preOf (csAt ops j).acc ops[j]])[k]? = some (prAt ops k)
      by_cases e : k = j
      · subst e
        rw [List.getElem?_append_right (by omega), h1, Nat.sub_self]
        simp only [prAt, hj]; rfl
      · rw [List.getElem?_append_left (by omega)]; exact h2 k (by omega)
theorem csAt_rw {ops : List Oper} : ∀ {j : Nat}, j ≤ ops.length → ∀ k, k < j → ∀ o, ops[k]? = some o → (csAt ops j).rw[j - 1 - k]? = some (rdAt ops k, dstBit o.dst)
  | 0, _, k, hk, _, _ => by omega
  | j + 1, h, k, hk, o, ho => by
    have hj : ops[j]? = some ops[j] := List.getElem?_eq_getElem (by omega)
    rw [csAt_succ hj]
    show ((readsOf (csAt ops j).ws (csAt ops j).i ops[j], dstBit ops[j].dst) :: (csAt ops j).rw)[j + 1 - 1 - k]? = some (rdAt ops k, dstBit o.dst)
    by_cases e : k = j
    · subst e
      rw [hj] at ho; cases ho
      have : k + 1 - 1 - k = 0 := by omega
      rw [this]
      simp only [rdAt, hj, csAt_i (show k ≤ ops.length by omega)]; rfl
    · have : j + 1 - 1 - k = (j - 1 - k) + 1 := by omega
      rw [this, List.getElem?_cons_succ]
      exact csAt_rw (by omega) k (by omega) o ho
theorem csAt_rwlen {ops : List Oper} : ∀ {j : Nat}, j ≤ ops.length → (csAt ops j).rw.length = j
  | 0, _ => rfl
  | j + 1, h => by
    rw [csAt_succ (List.getElem?_eq_getElem (by omega : j < ops.length))]
    show (csAt ops j).rw.length + 1 = j + 1
    rw [csAt_rwlen (by omega)]
theorem slotsOk_spec {pre r w : Nat} : ∀ (l : List (Nat × Nat)) (i : Nat), slotsOk pre r w l i = true → l.length = i → ∀ k r' w', k < i → l[i - 1 - k]? = some (r', w') → (meetB w (r' ||| w') = true ∨ meetB w' r = true) → pre.testBit k = true
  | [], i, _, hl, k, r', w', hk, _, _ => by simp at hl; omega
  | (r0, w0) :: l, i, h, hl, k, r', w', hk, hg, hm => by
    simp only [slotsOk] at h
    simp only [List.length_cons] at hl
    cases hq : (bif (bif meetB w (Nat.lor r0 w0) then true else meetB w0 r) then pre.testBit (Nat.sub i 1) else true) with
    | false =>
      have : (bif (meetB w (Nat.lor r0 w0) || meetB w0 r) then pre.testBit (Nat.sub i 1) else true) = false := by
        cases h1 : meetB w (Nat.lor r0 w0) <;> cases h2 : meetB w0 r <;> simp_all
      rw [this] at h; cases h
    | true =>
      have e1 : (bif (meetB w (Nat.lor r0 w0) || meetB w0 r) then pre.testBit (Nat.sub i 1) else true) = true := by
        cases h1 : meetB w (Nat.lor r0 w0) <;> cases h2 : meetB w0 r <;> simp_all
      rw [e1, cond_true] at h
      by_cases e : k = i - 1
      · have : i - 1 - k = 0 := by omega
        rw [this] at hg
        simp only [List.getElem?_cons_zero, Option.some.injEq, Prod.mk.injEq] at hg
        obtain ⟨rfl, rfl⟩ := hg
        have : (meetB w (Nat.lor r0 w0) || meetB w0 r) = true := by rw [Bool.or_eq_true]; exact hm
        rw [this, cond_true] at e1
        rw [e]; exact e1
      · have : i - 1 - k = (i - 1 - 1 - k) + 1 := by omega
        rw [this, List.getElem?_cons_succ] at hg
        exact slotsOk_spec l (i - 1) h (by omega) k r' w' (by omega) hg hm
theorem meetB_bit {a b t : Nat} (h1 : a.testBit t = true) (h2 : b.testBit t = true) : meetB a b = true := by
  unfold meetB
  cases h : Nat.beq (Nat.land a b) 0 with
  | false => rfl
  | true =>
    have e : a &&& b = 0 := Nat.eq_of_beq_eq_true h
    have := Nat.testBit_and a b t
    rw [e, h1, h2] at this
    simp at this
theorem shl_bit (t : Nat) : (Nat.shiftLeft 1 t).testBit t = true := by
  show (1 <<< t).testBit t = true
  rw [Nat.one_shiftLeft, Nat.testBit_two_pow]; simp
theorem dstBit_bit {d : Option Nat} {t : Nat} (h : d = some t) : (dstBit d).testBit t = true := by subst h; exact shl_bit t
/-- What the translation of a region whose order is open has looked at. -/
structure AnyAt (x : Cx) (ops : List Oper) (j : Nat) (o : Oper) (io : Io) : Prop where
  dst : dstOk x.nt o.dst = true
  guard : guardOk (csAt ops j).ws j o = true
  edges : edgesOk j o = true
  slots : slotsOk (prAt ops j) (rdAt ops j) (dstBit o.dst) (csAt ops j).rw j = true
  io : compileIO x ⟨(csAt ops j).ws, some (rdAt ops j)⟩ o (prAt ops j) (guardOf j o) = some io
theorem compileAny_at {x : Cx} {ops : List Oper} : ∀ (os : List Oper) (j : Nat) (ios : List Io), ops.drop j = os → j ≤ ops.length → compileAny x os (csAt ops j).i (csAt ops j).ws (csAt ops j).acc (csAt ops j).rw = some ios →
    ios.length = os.length ∧ ∀ k o, os[k]? = some o → ∃ io, ios[k]? = some io ∧ AnyAt x ops (j + k) o io
  | [], j, ios, _, _, h => by
    simp only [compileAny, Option.some.injEq] at h; subst h
    exact ⟨rfl, fun k o ho => by simp at ho⟩
  | o :: os, j, ios, hos, hj, h => by
    have hlt : j < ops.length := by
      rcases Nat.lt_or_ge j ops.length with k | k
      · exact k
      · rw [List.drop_of_length_le k] at hos; cases hos
    have ho : ops[j]? = some o := by
      have := congrArg List.head? hos
      rw [List.head?_drop] at this
      simpa using this
    have hos' : ops.drop (j + 1) = os := by
      have := congrArg List.tail hos
      rw [List.tail_drop] at this
      simpa using this
    simp only [compileAny, csAt_i hj] at h
    have ep : preOf (csAt ops j).acc o = prAt ops j := by simp only [prAt, ho]
    have er : readsOf (csAt ops j).ws j o = rdAt ops j := by simp only [rdAt, ho]
    rw [ep, er] at h
    cases hq : (dstOk x.nt o.dst && guardOk (csAt ops j).ws j o && (edgesOk j o && slotsOk (prAt ops j) (rdAt ops j) (dstBit o.dst) (csAt ops j).rw j)) with
    | false => rw [hq] at h; cases h
    | true =>
      rw [hq, cond_true] at h
      rw [Bool.and_eq_true, Bool.and_eq_true, Bool.and_eq_true] at hq
      cases hio : compileIO x ⟨(csAt ops j).ws, some (rdAt ops j)⟩ o (prAt ops j) (guardOf j o) with
      | none => rw [hio] at h; cases h
      | some io =>
        rw [hio] at h
        simp only [consO_map, Option.map_eq_some_iff] at h
        obtain ⟨ios', h1, rfl⟩ := h
        have e : compileAny x os (csAt ops (j + 1)).i (csAt ops (j + 1)).ws (csAt ops (j + 1)).acc (csAt ops (j + 1)).rw = some ios' := by
          rw [csAt_succ ho]
          simp only [CS.next, csAt_i hj, ep, er]
          exact h1
        obtain ⟨k1, k2⟩ := compileAny_at os (j + 1) ios' hos' (by omega) e
        refine ⟨by simp [k1], fun k o' hk => ?_⟩
        cases k with
        | zero =>
          simp only [List.getElem?_cons_zero, Option.some.injEq] at hk; subst hk
          exact ⟨io, rfl, ⟨hq.1.1, hq.1.2, hq.2.1, hq.2.2, hio⟩⟩
        | succ k =>
          rw [List.getElem?_cons_succ] at hk ⊢
          obtain ⟨io', q1, q2⟩ := k2 k o' hk
          exact ⟨io', q1, by have : j + (k + 1) = j + 1 + k := by omega
                             rw [this]; exact q2⟩

theorem preE_bit {acc : List Nat} {s : Nat} {e : Go.Edge} {i : Nat} (h : (preE acc s e).testBit i = true) : s.testBit i = true ∨ (Go.Region.binds .any e = true ∧ (i = e.on ∨ (acc.getD e.on 0).testBit i = true)) := by
  unfold preE at h
  cases hb : Go.Region.binds .any e with
  | false => rw [hb, cond_false] at h; exact .inl h
  | true =>
    rw [hb, cond_true] at h
    have h : (s ||| ((1 <<< e.on) ||| acc.getD e.on 0)).testBit i = true := h
    rw [Nat.testBit_or, Nat.testBit_or, Nat.one_shiftLeft, Nat.testBit_two_pow] at h
    simp only [Bool.or_eq_true, decide_eq_true_eq] at h
    rcases h with h | h | h
    · exact .inl h
    · exact .inr ⟨rfl, .inl h.symm⟩
    · exact .inr ⟨rfl, .inr h⟩
theorem preL_bit {acc : List Nat} {i : Nat} : ∀ (es : List Go.Edge) (s : Nat), (es.foldl (preE acc) s).testBit i = true → s.testBit i = true ∨ ∃ e ∈ es, Go.Region.binds .any e = true ∧ (i = e.on ∨ (acc.getD e.on 0).testBit i = true)
  | [], s, h => .inl h
  | e :: es, s, h => by
    rcases preL_bit es _ h with h | ⟨e', he, h⟩
    · rcases preE_bit h with h | h
      · exact .inl h
      · exact .inr ⟨e, by simp, h⟩
    · exact .inr ⟨e', List.mem_cons_of_mem _ he, h⟩
theorem pre_bit {acc : List Nat} {o : Oper} {i : Nat} (h : (preOf acc o).testBit i = true) : ∃ e ∈ o.after, Go.Region.binds .any e = true ∧ (i = e.on ∨ (acc.getD e.on 0).testBit i = true) := by
  rcases preL_bit o.after.toList 0 h with h | ⟨e, he, h⟩
  · simp at h
  · exact ⟨e, Array.mem_toList_iff.1 he, h⟩
theorem edges_lt {j : Nat} {o : Oper} (h : edgesOk j o = true) {e : Go.Edge} (he : e ∈ o.after) (hb : Go.Region.binds .any e = true) : e.on < j := by
  unfold edgesOk at h
  rw [List.all_eq_true] at h
  have := h e (Array.mem_toList_iff.2 he)
  rw [hb, cond_true, Nat.blt_eq] at this
  exact this

/-! ## A run, step by step -/
structure AS where
  hi : Hist
  sl : T S
  rs : List S
  bx : T (List V)
  nb : Nat
  H : Heap
/-- One step. -/
structure Adv (C : Orc) (io : Io) (j : Nat) (s : AS) (r : Res) (s' : AS) : Prop where
  res : stepIo C io s.sl s.rs s.bx s.nb s.H = some r
  hist : s.hi.add j io.pre r.fx = some s'.hi
  sl : s'.sl = putS s.sl io.dst r.s
  rs : s'.rs = r.s :: s.rs
  bx : s'.bx = r.bx
  nb : s'.nb = r.nb
  H : s'.H = r.hp
theorem runAny_adv {C : Orc} {io : Io} {os : List Io} {j : Nat} {s : AS} {st : St} (h : runAny C (io :: os) j s.hi s.sl s.rs s.bx s.nb s.H = some st) :
    ∃ r s', Adv C io j s r s' ∧ runAny C os (j + 1) s'.hi s'.sl s'.rs s'.bx s'.nb s'.H = some st := by
  cases io with
  | pu d g f p =>
    rw [runAny_pu] at h
    cases hr : runPu g f s.sl s.rs with
    | none => rw [hr] at h; cases h
    | some v =>
      rw [hr] at h
      exact ⟨⟨v, s.bx, s.nb, s.H, .pu⟩, ⟨s.hi, putS s.sl d v, v :: s.rs, s.bx, s.nb, s.H⟩, ⟨by simp only [stepIo, hr], rfl, rfl, rfl, rfl, rfl, rfl⟩, h⟩
  | me d g f p =>
    rw [runAny_me] at h
    cases hr : runMe C g f s.sl s.rs s.bx s.nb s.H with
    | none => rw [hr] at h; cases h
    | some r =>
      rw [hr] at h
      simp only at h
      cases hh : s.hi.add j p r.fx with
      | none => rw [hh] at h; cases h
      | some hi' =>
        rw [hh] at h
        exact ⟨r, ⟨hi', putS s.sl d r.s, r.s :: s.rs, r.bx, r.nb, r.hp⟩, ⟨hr, hh, rfl, rfl, rfl, rfl, rfl⟩, h⟩
theorem runAny_trace {C : Orc} : ∀ (ios : List Io) (j : Nat) (s : AS) (st : St), runAny C ios j s.hi s.sl s.rs s.bx s.nb s.H = some st →
    ∃ (X : Nat → AS) (R : Nat → Res), X 0 = s ∧ (∀ k io, ios[k]? = some io → Adv C io (j + k) (X k) (R k) (X (k + 1))) ∧ st = ⟨(X ios.length).sl, (X ios.length).bx, (X ios.length).nb, (X ios.length).H⟩
  | [], j, s, st, h => by
    rw [runAny_nil] at h; cases h
    exact ⟨fun _ => s, fun _ => ⟨.u, s.bx, s.nb, s.H, .pu⟩, rfl, fun k io hk => by simp at hk, rfl⟩
  | io :: ios, j, s, st, h => by
    obtain ⟨r, s', h1, h2⟩ := runAny_adv h
    obtain ⟨X, R, k1, k2, k3⟩ := runAny_trace ios (j + 1) s' st h2
    refine ⟨fun k => match k with | 0 => s | k + 1 => X k, fun k => match k with | 0 => r | k + 1 => R k, rfl, fun k io' hk => ?_, ?_⟩
    · cases k with
      | zero =>
        simp only [List.getElem?_cons_zero, Option.some.injEq] at hk; subst hk
        show Adv C io (j + 0) s r (X 0)
        rw [k1]; exact h1
      | succ k =>
        rw [List.getElem?_cons_succ] at hk
        have := k2 k io' hk
        have e : j + (k + 1) = j + 1 + k := by omega
        rw [e]; exact this
    · rw [List.length_cons]; exact k3

/-! ## A region's run -/
structure Rg (x : Cx) (C : Orc) (ops : Array Oper) (X : Nat → AS) (R : Nat → Res) : Prop where
  at_ : ∀ j o, ops[j]? = some o → ∃ io, AnyAt x ops.toList j o io ∧ Adv C io j (X j) (R j) (X (j + 1)) ∧ IoOk io
  fx : ∀ j, j < ops.size → FxOk (X j).H (X j).bx (X j).nb (R j)
  bn : ∀ j, j ≤ ops.size → ∀ g, (X j).nb ≤ g → (X j).bx.get g = none
  hn : ∀ j, j ≤ ops.size → ∀ b, (X j).H.nx ≤ b → (X j).H.bl.get b = none
  knows : ∀ j, j ≤ ops.size → ∀ i, i < j → Knows (X j).hi i (R i).fx
  rs : (X 0).rs = []
section
variable {P : Program} {x : Cx} {C : Orc} {ops : Array Oper} {X : Nat → AS} {R : Nat → Res}
theorem Rg.make (hC : OrcLe C) {ios : List Io} (hat : ∀ j o, ops[j]? = some o → ∃ io, ios[j]? = some io ∧ AnyAt x ops.toList j o io) (hadv : ∀ k io, ios[k]? = some io → Adv C io k (X k) (R k) (X (k + 1)))
    (h0 : (X 0).rs = []) (bn0 : ∀ g, (X 0).nb ≤ g → (X 0).bx.get g = none) (hn0 : ∀ b, (X 0).H.nx ≤ b → (X 0).H.bl.get b = none) : Rg x C ops X R := by
  have get : ∀ j, j < ops.size → ∃ o io, ops[j]? = some o ∧ ios[j]? = some io ∧ AnyAt x ops.toList j o io ∧ Adv C io j (X j) (R j) (X (j + 1)) ∧ IoOk io := fun j hj => by
    have ho := Array.getElem?_eq_getElem hj
    obtain ⟨io, h1, h2⟩ := hat j _ ho
    exact ⟨_, io, ho, h1, h2, hadv j io h1, (compileIO_ok h2.io).1⟩
  have main : ∀ j, j ≤ ops.size → (∀ g, (X j).nb ≤ g → (X j).bx.get g = none) ∧ (∀ b, (X j).H.nx ≤ b → (X j).H.bl.get b = none) ∧ ∀ i, i < j → FxOk (X i).H (X i).bx (X i).nb (R i) ∧ Knows (X j).hi i (R i).fx := by
    intro j
    induction j with
    | zero => exact fun _ => ⟨bn0, hn0, fun i hi => by omega⟩
    | succ j ih =>
      intro hj
      obtain ⟨k1, k2, k3⟩ := ih (by omega)
      obtain ⟨o, io, ho, hio, hany, hadv, hok⟩ := get j (by omega)
      have hF := step_fx hC hok k1 k2 hadv.res
      refine ⟨?_, ?_, fun i hi => ?_⟩
      · rw [hadv.nb, hadv.bx]; exact hF.bn k1
      · rw [hadv.H]; exact hF.hn k2
      · by_cases e : i = j
        · subst e; exact ⟨hF, add_self hadv.hist⟩
        · obtain ⟨q1, q2⟩ := k3 i (by omega)
          exact ⟨q1, add_keep hadv.hist q2⟩
  refine ⟨fun j o ho => ?_, fun j hj => ((main ops.size (Nat.le_refl _)).2.2 j hj).1, fun j hj => (main j hj).1, fun j hj => (main j hj).2.1, fun j hj i hi => ((main j hj).2.2 i hi).2, h0⟩
  have hj : j < ops.size := (Array.getElem?_eq_some_iff.1 ho).1
  obtain ⟨o', io, ho', hio, hany, hadv, hok⟩ := get j hj
  rw [ho] at ho'; cases ho'
  exact ⟨io, hany, hadv, hok⟩
variable (G : Rg x C ops X R)
include G
theorem Rg.step {j : Nat} (hj : j < ops.size) : (X (j + 1)).H = (R j).hp ∧ (X (j + 1)).bx = (R j).bx ∧ (X (j + 1)).nb = (R j).nb ∧ (X (j + 1)).rs = (R j).s :: (X j).rs ∧
    (X (j + 1)).sl = putS (X j).sl (keep x.np x.vm ops[j].dst) (R j).s := by
  obtain ⟨io, h1, h2, _⟩ := G.at_ j _ (Array.getElem?_eq_getElem hj)
  have := (compileIO_ok h1.io).2.1
  exact ⟨h2.H, h2.bx, h2.nb, h2.rs, by rw [h2.sl, this]⟩
theorem Rg.nxs {j : Nat} (hj : j < ops.size) : (X j).H.nx ≤ (X (j + 1)).H.nx := by rw [(G.step hj).1]; exact (G.fx j hj).nx
theorem Rg.nbs {j : Nat} (hj : j < ops.size) : (X j).nb ≤ (X (j + 1)).nb := by rw [(G.step hj).2.2.1]; exact (G.fx j hj).nbLe
theorem Rg.nx {i j : Nat} (hij : i ≤ j) (hj : j ≤ ops.size) : (X i).H.nx ≤ (X j).H.nx := by
  induction j with
  | zero => have : i = 0 := by omega
            subst this; exact Nat.le_refl _
  | succ j ih =>
    by_cases e : i = j + 1
    · subst e; exact Nat.le_refl _
    · exact Nat.le_trans (ih (by omega) (by omega)) (G.nxs (by omega))
theorem Rg.nb {i j : Nat} (hij : i ≤ j) (hj : j ≤ ops.size) : (X i).nb ≤ (X j).nb := by
  induction j with
  | zero => have : i = 0 := by omega
            subst this; exact Nat.le_refl _
  | succ j ih =>
    by_cases e : i = j + 1
    · subst e; exact Nat.le_refl _
    · exact Nat.le_trans (ih (by omega) (by omega)) (G.nbs (by omega))
/-- The blocks that an operation makes. -/
theorem Rg.newU {i j b : Nat} (hi : i < ops.size) (hj : j < ops.size) (h1 : (X i).H.nx ≤ b) (h2 : b < (X (i + 1)).H.nx) (h3 : (X j).H.nx ≤ b) (h4 : b < (X (j + 1)).H.nx) : i = j := by
  rcases Nat.lt_trichotomy i j with h | h | h
  · have := G.nx (i := i + 1) (j := j) (by omega) (by omega); omega
  · exact h
  · have := G.nx (i := j + 1) (j := i) (by omega) (by omega); omega
theorem Rg.newUB {i j b : Nat} (hi : i < ops.size) (hj : j < ops.size) (h1 : (X i).nb ≤ b) (h2 : b < (X (i + 1)).nb) (h3 : (X j).nb ≤ b) (h4 : b < (X (j + 1)).nb) : i = j := by
  rcases Nat.lt_trichotomy i j with h | h | h
  · have := G.nb (i := i + 1) (j := j) (by omega) (by omega); omega
  · exact h
  · have := G.nb (i := j + 1) (j := i) (by omega) (by omega); omega
theorem Rg.hist {i j : Nat} (hij : i < j) (hj : j < ops.size) : ∃ h', (X j).hi.add j (prAt ops.toList j) (R j).fx = some h' ∧ Knows (X j).hi i (R i).fx := by
  obtain ⟨io, h1, h2, _⟩ := G.at_ j _ (Array.getElem?_eq_getElem hj)
  have := (compileIO_ok h1.io).2.2
  exact ⟨_, by rw [← this]; exact h2.hist, G.knows j (by omega) i hij⟩
end
def OldW (X : Nat → AS) (R : Nat → Res) (k b : Nat) : Prop := (∃ l, (R k).fx = .hs l ∧ (b, true) ∈ l) ∨ ((R k).fx = .ha true ∧ b < (X k).H.nx)
def NewW (X : Nat → AS) (k b : Nat) : Prop := (X k).H.nx ≤ b ∧ b < (X (k + 1)).H.nx
def WH (X : Nat → AS) (R : Nat → Res) (b k : Nat) : Prop := OldW X R k b ∨ NewW X k b
def WB (R : Nat → Res) (g k : Nat) : Prop := (R k).fx = .bx g true
def WR (ops : Array Oper) (t k : Nat) : Prop := ∃ o, ops[k]? = some o ∧ o.dst = some t
section
variable {P : Program} {x : Cx} {C : Orc} {ops : Array Oper} {X : Nat → AS} {R : Nat → Res} (G : Rg x C ops X R)
include G
theorem Rg.c1 {i j b : Nat} (hij : i < j) (hj : j < ops.size) (hw : OldW X R i b) (ht : tauF (X j).H (R j).fx b) : (prAt ops.toList j).testBit i = true := by
  obtain ⟨h', ha, hk⟩ := G.hist hij hj
  obtain ⟨a1, a2, a3, a4, a5, a6, a7, _⟩ := add_heap ha hk
  cases hfx : (R j).fx with
  | pu => rw [hfx] at ht; exact ht.elim
  | bx g y => rw [hfx] at ht; exact ht.elim
  | hs l =>
    rw [hfx] at ht
    obtain ⟨y, hy⟩ := ht
    rcases hw with ⟨l', e, hm⟩ | ⟨e, _⟩
    · exact a1 l l' b y true hfx e hy hm (.inr rfl)
    · exact a2 l hfx e
  | ha y =>
    rcases hw with ⟨l', e, hm⟩ | ⟨e, _⟩
    · exact a5 l' b y hfx e hm
    · exact a7 y hfx e
theorem Rg.c2 {i j b : Nat} (hij : i < j) (hj : j < ops.size) (ht : tauF (X i).H (R i).fx b) (hw : OldW X R j b) : (prAt ops.toList j).testBit i = true := by
  obtain ⟨h', ha, hk⟩ := G.hist hij hj
  obtain ⟨a1, a2, a3, a4, a5, a6, a7, _⟩ := add_heap ha hk
  cases hfx : (R i).fx with
  | pu => rw [hfx] at ht; exact ht.elim
  | bx g y => rw [hfx] at ht; exact ht.elim
  | hs l =>
    rw [hfx] at ht
    obtain ⟨y, hy⟩ := ht
    rcases hw with ⟨l', e, hm⟩ | ⟨e, _⟩
    · exact a1 l' l b true y e hfx hm hy (.inl rfl)
    · exact a4 l e hfx
  | ha y =>
    rcases hw with ⟨l', e, hm⟩ | ⟨e, _⟩
    · exact a3 l' b y e hfx hm
    · exact a6 y e hfx
theorem Rg.c3 {i j b : Nat} (hij : i < j) (hj : j < ops.size) (hn : NewW X i b) (hw : (R j).fx = .ha true) : (prAt ops.toList j).testBit i = true := by
  obtain ⟨h', ha, hk⟩ := G.hist hij hj
  obtain ⟨a1, a2, a3, a4, a5, a6, a7, _⟩ := add_heap ha hk
  have hi : i < ops.size := by omega
  have hF := (G.fx i hi).2
  have hs := (G.step hi).1
  cases hfx : (R i).fx with
  | pu => rw [hfx] at hF; unfold NewW at hn; rw [hs, hF.1] at hn; omega
  | bx g y => rw [hfx] at hF; unfold NewW at hn; rw [hs, hF.1] at hn; omega
  | hs l => exact a4 l hw hfx
  | ha y => exact a6 y hw hfx
theorem Rg.c4 {i j g : Nat} {w w' : Bool} (hij : i < j) (hj : j < ops.size) (h1 : (R j).fx = .bx g w) (h2 : (R i).fx = .bx g w') (hw : w = true ∨ w' = true) : (prAt ops.toList j).testBit i = true := by
  obtain ⟨h', ha, hk⟩ := G.hist hij hj
  exact (add_heap ha hk).2.2.2.2.2.2.2 g w w' h1 h2 hw
theorem Rg.c5 {i j t : Nat} (hij : i < j) (hj : j < ops.size) (h : (WR ops t i ∧ ((rdAt ops.toList j).testBit t = true ∨ WR ops t j)) ∨ ((rdAt ops.toList i).testBit t = true ∧ WR ops t j)) : (prAt ops.toList j).testBit i = true := by
  have hoj := Array.getElem?_eq_getElem hj
  have hoi := Array.getElem?_eq_getElem (show i < ops.size by omega)
  obtain ⟨io, h1, h2, _⟩ := G.at_ j _ hoj
  have hrw := csAt_rw (ops := ops.toList) (j := j) (by simp; omega) i hij ops[i] (by simp)
  refine slotsOk_spec _ j h1.slots (csAt_rwlen (by simp; omega)) i _ _ hij hrw ?_
  have wr : ∀ k, (hk : k < ops.size) → WR ops t k → (dstBit ops[k].dst).testBit t = true := fun k hk ⟨o, ho, hd⟩ => by
    rw [Array.getElem?_eq_getElem hk] at ho; cases ho
    exact dstBit_bit hd
  rcases h with ⟨hw, hr | hw'⟩ | ⟨hr, hw⟩
  · exact .inr (meetB_bit (wr i (by omega) hw) hr)
  · exact .inl (meetB_bit (wr j hj hw') (by rw [Nat.testBit_or, wr i (by omega) hw]; simp))
  · exact .inl (meetB_bit (wr j hj hw) (by rw [Nat.testBit_or, hr]; rfl))

/-! Full views. -/
theorem Rg.fullH (b : Nat) {j : Nat} (hj : j ≤ ops.size) : vw (fun _ => true) (WH X R b) ((X 0).H.bl.get b) (fun k => (X (k + 1)).H.bl.get b) j = (X j).H.bl.get b := by
  induction j with
  | zero => rfl
  | succ j ih =>
    have hj' : j < ops.size := by omega
    by_cases hw : WH X R b j
    · rw [vw_succ_pos ⟨rfl, hw⟩]
    · rw [vw_succ_neg (fun c => hw c.2), ih (by omega)]
      have hF := G.fx j hj'
      have hs := (G.step hj').1
      rcases Nat.lt_or_ge b (X j).H.nx with k | k
      · have hF2 := hF.2
        rw [hs]
        cases hfx : (R j).fx with
        | pu => rw [hfx] at hF2; rw [hF2.1]
        | bx g y => rw [hfx] at hF2; rw [hF2.1]
        | hs l => rw [hfx] at hF2; exact (hF2.2.2.1.same b k fun h => hw (.inl (.inl ⟨l, hfx, h⟩))).symm
        | ha y => rw [hfx] at hF2; exact (hF2.2.2.same b k fun h => hw (.inl (.inr ⟨by rw [hfx, h], k⟩))).symm
      · have : (X (j + 1)).H.nx ≤ b := by
          rcases Nat.lt_or_ge b (X (j + 1)).H.nx with q | q
          · exact absurd (.inr ⟨k, q⟩) hw
          · exact q
        rw [G.hn j (by omega) b k, G.hn (j + 1) hj b this]
theorem Rg.fullB (g : Nat) {j : Nat} (hj : j ≤ ops.size) : vw (fun _ => true) (WB R g) ((X 0).bx.get g) (fun k => (X (k + 1)).bx.get g) j = (X j).bx.get g := by
  induction j with
  | zero => rfl
  | succ j ih =>
    have hj' : j < ops.size := by omega
    by_cases hw : WB R g j
    · rw [vw_succ_pos ⟨rfl, hw⟩]
    · rw [vw_succ_neg (fun c => hw c.2), ih (by omega)]
      have hF2 := (G.fx j hj').2
      rw [(G.step hj').2.1]
      cases hfx : (R j).fx with
      | pu => rw [hfx] at hF2; rw [hF2.2.1]
      | bx g' y =>
        rw [hfx] at hF2
        by_cases e : g = g'
        · subst e
          cases y with
          | true => exact absurd hfx hw
          | false => rw [hF2.2.2.2.1 rfl]
        · rw [hF2.2.2.1 g e]
      | hs l => rw [hfx] at hF2; rw [hF2.1]
      | ha y => rw [hfx] at hF2; rw [hF2.1]
theorem Rg.rsAt {j : Nat} (hj : j ≤ ops.size) : (X j).rs.length = j ∧ ∀ k, k < j → (X j).rs[j - 1 - k]? = some (R k).s := by
  induction j with
  | zero => exact ⟨by rw [G.rs]; rfl, fun k hk => by omega⟩
  | succ j ih =>
    obtain ⟨h1, h2⟩ := ih (by omega)
    rw [(G.step (by omega)).2.2.2.1]
    refine ⟨by simp [h1], fun k hk => ?_⟩
    by_cases e : k = j
    · subst e
      have : k + 1 - 1 - k = 0 := by omega
      rw [this]; rfl
    · have : j + 1 - 1 - k = (j - 1 - k) + 1 := by omega
      rw [this, List.getElem?_cons_succ]; exact h2 k (by omega)
theorem Rg.fullS (hk0 : ∀ t s, (X 0).sl.get t = some s → isVar x.np x.vm t = true) {j : Nat} (hj : j ≤ ops.size) : ∀ t s, (X j).sl.get t = some s → isVar x.np x.vm t = true ∧
    vw (fun _ => true) (WR ops t) ((X 0).sl.get t) (fun k => some (R k).s) j = some s := by
  induction j with
  | zero => exact fun t s h => ⟨hk0 t s h, h⟩
  | succ j ih =>
    intro t s h
    have hj' : j < ops.size := by omega
    have ho := Array.getElem?_eq_getElem hj'
    rw [(G.step hj').2.2.2.2, putS_get] at h
    by_cases e : keep x.np x.vm ops[j].dst = some t
    · rw [if_pos e] at h; cases h
      obtain ⟨e1, e2⟩ := keep_some e
      exact ⟨e2, by rw [vw_succ_pos ⟨rfl, ⟨_, ho, e1⟩⟩]⟩
    · rw [if_neg e] at h
      obtain ⟨k1, k2⟩ := ih (by omega) t s h
      refine ⟨k1, ?_⟩
      rw [vw_succ_neg, k2]
      rintro ⟨_, o, ho', hd⟩
      rw [ho] at ho'; cases ho'
      exact e (keep_of hd k1)
end
theorem findW_some (t : Nat) : ∀ (ws : Ws) (m : Nat), findW t ws 0 = some m → ws[m]? = some (some t) ∧ ∀ m', m' < m → ws[m']? ≠ some (some t)
  | [], m, h => by cases h
  | d :: ws, m, h => by
    simp only [findW, isD_iff] at h
    by_cases e : d = some t
    · simp only [e, decide_true, cond_true, Option.some.injEq] at h; subst h
      exact ⟨by rw [e]; rfl, fun m' hm => by omega⟩
    · simp only [e, decide_false, cond_false] at h
      rw [findW_shift] at h
      cases hf : findW t ws 0 with
      | none => rw [hf] at h; cases h
      | some k =>
        rw [hf] at h
        simp only [Option.map_some, Option.some.injEq] at h
        subst h
        obtain ⟨h1, h2⟩ := findW_some t ws k hf
        refine ⟨by rw [Nat.succ_eq_add_one, List.getElem?_cons_succ]; exact h1, fun m' hm => ?_⟩
        cases m' with
        | zero => simpa using e
        | succ m' => rw [List.getElem?_cons_succ]; exact h2 m' (by omega)

theorem Rg.fullR {x : Cx} {C : Orc} {ops : Array Oper} {X : Nat → AS} {R : Nat → Res} (G : Rg x C ops X R) (hk0 : ∀ t s, (X 0).sl.get t = some s → isVar x.np x.vm t = true) {j : Nat} (hj : j < ops.size) {t : Nat} {s : S}
    (he : ev ⟨(X j).sl, (X j).rs⟩ (opdT t (findW t (csAt ops.toList j).ws 0)) = some s) :
    vw (fun _ => true) (WR ops t) ((X 0).sl.get t) (fun k => some (R k).s) j = some s := by
  have hlen : j ≤ ops.toList.length := by simp; omega
  cases hf : findW t (csAt ops.toList j).ws 0 with
  | none =>
    rw [hf] at he
    exact (G.fullS hk0 (by omega) t s he).2
  | some m =>
    rw [hf] at he
    obtain ⟨h1, h2⟩ := findW_some t _ m hf
    have hm : m < j := by
      have := (List.getElem?_eq_some_iff.1 h1).1
      rw [csAt_wslen hlen] at this; exact this
    simp only [opdT, ev, nth_eq] at he
    have hi : j - 1 - (j - 1 - m) = m := by omega
    have hrs := (G.rsAt (j := j) (by omega)).2 (j - 1 - m) (by omega)
    rw [hi] at hrs
    rw [hrs] at he; cases he
    have hws := fun k (hk : k < j) => csAt_ws hlen k hk ops[k] (by simp [Array.getElem?_eq_getElem (show k < ops.size by omega)])
    have hd : ops[j - 1 - m].dst = some t := by
      have := hws (j - 1 - m) (by omega)
      rw [hi, h1] at this
      exact (Option.some.inj this).symm
    rw [vw_after (j - 1 - m + 1) j (by omega)]
    · rw [vw_succ_pos ⟨rfl, _, Array.getElem?_eq_getElem (by omega), hd⟩]
    · rintro k k1 k2 _ ⟨o, ho, hdk⟩
      rw [Array.getElem?_eq_getElem (show k < ops.size by omega)] at ho; cases ho
      have := hws k k2
      rw [hdk] at this
      exact h2 (j - 1 - k) (by omega) this

/-! ## Any order -/
theorem MemR.sub {ρ : Ren} {A A' : Nat → Option Am.Obj} {w : World} (h : MemR ρ A w) (hA : ∀ b I, ρ b = some I → A' b = A b ∨ A' b = none) : MemR ρ A' w := by
  refine ⟨fun b I cs es fl hr ha => ?_, fun b b' I I' cs es fl o hne hr hr' ha ha' hfl => ?_, h.lt⟩
  · rcases hA b I hr with e | e
    · exact h.get b I cs es fl hr (by rw [← e]; exact ha)
    · rw [e] at ha; cases ha
  · rcases hA b I hr with e | e
    · rcases hA b' I' hr' with e' | e'
      · exact h.inj b b' I I' cs es fl o hne hr hr' (by rw [← e]; exact ha) (by rw [← e']; exact ha') hfl
      · rw [e'] at ha'; cases ha'
    · rw [e] at ha; cases ha
def lst (listed : Array Bool) (k : Nat) : Bool := listed.getD k false
/-- What holds when some of a region's operations have been done. -/
structure AInv (x : Cx) (ops : Array Oper) (X : Nat → AS) (R : Nat → Res) (ρ0 : Ren) (H0 : Heap) (N : Nat) (w0 : World) (listed : Array Bool) (ρ : Ren) (π : Nat → Option Nat) (a : Act) (w : World) : Prop where
  size : listed.size = ops.size
  clo : ∀ k, lst listed k = true → ∀ i, (prAt ops.toList k).testBit i = true → lst listed i = true
  regs : ∀ t s, vw (lst listed) (WR ops t) ((X 0).sl.get t) (fun k => some (R k).s) ops.size = some s → SR ρ π s (a.eval (.tmp t))
  asz : a.tmps.size = x.nt
  defers : a.defers = []
  mem : MemR ρ (fun b => vw (lst listed) (WH X R b) ((X 0).H.bl.get b) (fun k => (X (k + 1)).H.bl.get b) ops.size) w
  box : BoxR ρ π (fun g => vw (lst listed) (WB R g) ((X 0).bx.get g) (fun k => (X (k + 1)).bx.get g) ops.size) w
  dom : ∀ b I, ρ b = some I → (X 0).H.nx ≤ b → b < N → ∃ j, j < ops.size ∧ lst listed j = true ∧ (X j).H.nx ≤ b ∧ b < (X (j + 1)).H.nx
  pdom : ∀ g k, π g = some k → (X 0).nb ≤ g → ∃ j, j < ops.size ∧ lst listed j = true ∧ (X j).nb ≤ g ∧ g < (X (j + 1)).nb
  touch : ∀ k, k < ops.size → lst listed k = true → ∀ l, (R k).fx = .hs l → ∀ b, tl l b → ρ b ≠ none
  cum : Cum ρ0 H0 N w0 ρ π w
theorem OutR.dom {ρ ρ' : Ren} {π π' : Nat → Option Nat} {H : Heap} {bx : T (List V)} {nb : Nat} {w w' : World} {res : Res} {c : Value} (hO : OutR ρ π H bx nb w res c w' ρ' π') : (∀ b I, ρ' b = some I → ρ b = some I ∨ (H.nx ≤ b ∧ b < res.hp.nx)) ∧ (∀ g k, π' g = some k → π g = some k ∨ (nb ≤ g ∧ g < res.nb)) := by
  rcases hO.2 with ⟨l, _, e2, e3, _⟩ | ⟨y, _, e2, e3⟩ | ⟨g, y, _, e2, e3, _⟩ | ⟨_, e2, e3, _⟩
  · subst e2; exact ⟨e3.dom, fun _ _ h => .inl h⟩
  · subst e2; exact ⟨e3.dom, fun _ _ h => .inl h⟩
  · subst e2; exact ⟨fun _ _ h => .inl h, fun g' k h => (e3.dom g' k h).imp id fun h => ⟨h.2.1, h.2.2.1⟩⟩
  · subst e2 e3; exact ⟨fun _ _ h => .inl h, fun _ _ h => .inl h⟩
theorem lst_set {listed : Array Bool} {i : Nat} (hi : i < listed.size) (k : Nat) : lst (listed.setIfInBounds i true) k = if k = i then true else lst listed k := by
  unfold lst
  by_cases h : k = i
  · subst h; rw [if_pos rfl]; simp [hi]
  · rw [if_neg h]; simp only [Array.getD_eq_getD_getElem?]; rw [Array.getElem?_setIfInBounds_ne (Ne.symm h)]
theorem any_step {P : Program} {x : Cx} {C : Orc} {ops : Array Oper} {X : Nat → AS} {R : Nat → Res} (hx : x.P = P) (hT : TabOk P x.tt x.ft) (hC : OrcOk P C) (G : Rg x C ops X R) (hk0 : ∀ t s, (X 0).sl.get t = some s → isVar x.np x.vm t = true)
    {ρ0 : Ren} {H0 : Heap} {N : Nat} {w0 : World} (hfree : ∀ b, H0.nx ≤ b → b < N → ρ0 b = none) (hN : (X ops.size).H.nx ≤ N) (hle0 : ∀ j, j ≤ ops.size → HLe (fun _ => True) H0 (X j).H)
    {listed : Array Bool} {a : Act} {w : World} {ρ : Ren} {π : Nat → Option Nat} (hI : AInv x ops X R ρ0 H0 N w0 listed ρ π a w) {i : Nat} (hi : i < ops.size) (hun : lst listed i = false) (hpre : ∀ k, (prAt ops.toList i).testBit k = true → lst listed k = true)
    {K : Act → World → Prop} {Q : Exit → Act → World → Prop} (hK : ∀ a' w' ρ' π', AInv x ops X R ρ0 H0 N w0 (listed.setIfInBounds i true) ρ' π' a' w' → K a' w') : Go.wpOp P ops Q i K a w := by
  have ho : ops[i]? = some ops[i] := Array.getElem?_eq_getElem hi
  obtain ⟨io, hany, hadv, hok⟩ := G.at_ i _ ho
  have hF := G.fx i hi
  obtain ⟨sH, sbx, snb, srs, ssl⟩ := G.step hi
  have later : ∀ k, i < k → k < ops.size → lst listed k = true → (prAt ops.toList k).testBit i = true → False := fun k _ _ hl hp => by
    have := hI.clo k hl i hp; rw [hun] at this; cases this
  have hlt : ∀ b, NewW X i b → b < N := fun b h => by have := G.nx (i := i + 1) (j := ops.size) (by omega) (Nat.le_refl _); have := h.2; omega
  -- an unmade block is not known
  have newNone : ∀ b, NewW X i b → ρ b = none := fun b h => by
    cases hr : ρ b with
    | none => rfl
    | some I =>
      have h0 : (X 0).H.nx ≤ b := Nat.le_trans (G.nx (Nat.zero_le i) (by omega)) h.1
      obtain ⟨j, j1, j2, j3, j4⟩ := hI.dom b I hr h0 (hlt b h)
      have := G.newU j1 hi j3 j4 h.1 h.2
      subst this; rw [hun] at j2; cases j2
  have newNoneB : ∀ g, (X i).nb ≤ g → g < (X (i + 1)).nb → π g = none := fun g h1 h2 => by
    cases hr : π g with
    | none => rfl
    | some k =>
      obtain ⟨j, j1, j2, j3, j4⟩ := hI.pdom g k hr (Nat.le_trans (G.nb (Nat.zero_le i) (by omega)) h1)
      have := G.newUB j1 hi j3 j4 h1 h2
      subst this; rw [hun] at j2; cases j2
  -- what stands where it looks
  have atH : ∀ b I, ρ b = some I → tauF (X i).H (R i).fx b → vw (lst listed) (WH X R b) ((X 0).H.bl.get b) (fun k => (X (k + 1)).H.bl.get b) ops.size = (X i).H.bl.get b := fun b I hr ht => by
    have hbi := hF.tau (G.hn i (by omega)) b ht
    rw [vw_at i ops.size (by omega) (fun k hk hw => ?_) (fun k hk hk2 hl hw => ?_), G.fullH b (by omega)]
    · rcases hw with hw | hw
      · exact hpre k (G.c1 hk hi hw ht)
      · have h0 : (X 0).H.nx ≤ b := Nat.le_trans (G.nx (Nat.zero_le k) (by omega)) hw.1
        have hb : b < N := by have := G.nx (i := i) (j := ops.size) (by omega) (Nat.le_refl _); omega
        obtain ⟨j, j1, j2, j3, j4⟩ := hI.dom b I hr h0 hb
        have := G.newU j1 (by omega : k < ops.size) j3 j4 hw.1 hw.2
        subst this; exact j2
    · have hne : k ≠ i := fun e => by subst e; rw [hun] at hl; cases hl
      rcases hw with hw | hw
      · exact later k (by omega) hk2 hl (G.c2 (by omega) hk2 ht hw)
      · have := G.nx (i := i) (j := k) (by omega) (by omega); have := hw.1; omega
  have atB : ∀ g, boxF (R i).fx g → vw (lst listed) (WB R g) ((X 0).bx.get g) (fun k => (X (k + 1)).bx.get g) ops.size = (X i).bx.get g := fun g hg => by
    obtain ⟨y, hy⟩ : ∃ y, (R i).fx = .bx g y := by
      cases hfx : (R i).fx with
      | bx g' y => rw [hfx] at hg; exact ⟨y, by rw [show g = g' from hg]⟩
      | _ => rw [hfx] at hg; exact hg.elim
    rw [vw_at (W := WB R g) i ops.size (by omega) (fun k hk hw => hpre k (G.c4 hk hi hy hw (.inr rfl))) (fun k hk hk2 hl hw => ?_), G.fullB g (by omega)]
    have hne : k ≠ i := fun e => by subst e; rw [hun] at hl; cases hl
    exact later k (by omega) hk2 hl (G.c4 (by omega) hk2 hw hy (.inl rfl))
  have hE : EnR ρ π ⟨(csAt ops.toList i).ws, some (rdAt ops.toList i)⟩ ⟨(X i).sl, (X i).rs⟩ a := by
    intro t s hs he
    have hrd : (rdAt ops.toList i).testBit t = true := hs
    refine hI.regs t s ?_
    rw [vw_at (W := WR ops t) i ops.size (by omega) (fun k hk hw => hpre k (G.c5 hk hi (.inl ⟨hw, .inl hrd⟩))) (fun k hk hk2 hl hw => ?_), G.fullR hk0 hi he]
    have hne : k ≠ i := fun e => by subst e; rw [hun] at hl; cases hl
    exact later k (by omega) hk2 hl (G.c5 (by omega) hk2 (.inr ⟨hrd, hw⟩))
  have hlen : i ≤ ops.toList.length := by simp; omega
  refine op_wp hx hT hC (A := fun b => vw (lst listed) (WH X R b) ((X 0).H.bl.get b) (fun k => (X (k + 1)).H.bl.get b) ops.size) (B := fun g => vw (lst listed) (WB R g) ((X 0).bx.get g) (fun k => (X (k + 1)).bx.get g) ops.size) ho hany.io hE ?_ hadv.res ?_ ?_
  · intro g' r hg' hw
    refine guard_ok (fun j hj oj hoj => csAt_ws hlen j hj oj (by simpa using hoj)) (fun j hj => ⟨_, Array.getElem?_eq_getElem (by omega)⟩) hany.guard hg' (fun j want d hgd hwd => ?_) hE hw
    show (rdAt ops.toList i).testBit d = true
    simp only [rdAt, Array.getElem?_toList, ho]
    have key : ∀ (l : List Operand) (m : Nat), m.testBit d = true → (l.foldl tmpBit m).testBit d = true := by
      intro l
      induction l with
      | nil => exact fun m h => h
      | cons y l ih =>
        intro m h
        refine ih _ ?_
        unfold tmpBit
        split
        · show (m ||| _).testBit d = true
          rw [Nat.testBit_or, h]; rfl
        · exact h
    refine key _ _ ?_
    unfold guardBit
    simp only [hgd]
    have hsub : Nat.sub (Nat.sub i 1) j = i - 1 - j := rfl
    rw [hsub, hwd]
    exact shl_bit d
  · refine ⟨⟨hI.mem, hI.box, fun l hl b I hr hb => ?_, fun g y hy _ _ _ => ?_, G.hn i (by omega), fun b h1 h2 => newNone b ⟨h1, by rw [sH]; exact h2⟩, fun g h1 h2 => newNoneB g h1 (by rw [snb]; exact h2), G.bn i (by omega)⟩, fun y hy => ?_⟩
    · exact atH b I hr (by rw [hl]; exact hb)
    · exact atB g (by rw [hy]; rfl)
    · refine hI.mem.sub fun b I hr => ?_
      rcases Nat.lt_or_ge b (X i).H.nx with k | k
      · exact .inl (atH b I hr (by rw [hy]; exact k)).symm
      · exact .inr (G.hn i (by omega) b k)
  · intro c w' ρ' π' hO
    have hl := lst_set (listed := listed) (i := i) (by rw [hI.size]; exact hi)
    have hne : ∀ k, k ≠ i → lst (listed.setIfInBounds i true) k = lst listed k := fun k hk => by rw [hl, if_neg hk]
    have hii : lst (listed.setIfInBounds i true) i = true := by rw [hl, if_pos rfl]
    obtain ⟨m1, m2⟩ := hO.monoR
    obtain ⟨d1, d2⟩ := hO.dom
    have hdlt := dst_lt hany.dst hI.asz
    have setH : ∀ b, WH X R b i → (ρ b ≠ none ∨ NewW X i b) → vw (lst (listed.setIfInBounds i true)) (WH X R b) ((X 0).H.bl.get b) (fun k => (X (k + 1)).H.bl.get b) ops.size = (R i).hp.bl.get b := fun b hw hk0 => by
      rw [vw_set i ops.size hi hne hii hw fun k hk hk2 hlk hwk => ?_, sH]
      rcases hwk with hwk | hwk
      · rcases hw with hw | hw
        · refine later k hk hk2 hlk (G.c2 hk hk2 ?_ hwk)
          rcases hw with ⟨l, e, hm⟩ | ⟨e, hb⟩
          · rw [e]; exact ⟨true, hm⟩
          · rw [e]; exact hb
        · rcases hwk with ⟨l, e, hm⟩ | ⟨e, hb⟩
          · have := hI.touch k hk2 hlk l e b ⟨true, hm⟩
            exact this (newNone b hw)
          · exact later k hk hk2 hlk (G.c3 hk hk2 hw e)
      · rcases hw with hw | hw
        · have hb : b < (X i).H.nx := hF.tau (G.hn i (by omega)) b (by
            rcases hw with ⟨l, e, hm⟩ | ⟨e, hb⟩
            · rw [e]; exact ⟨true, hm⟩
            · rw [e]; exact hb)
          have := G.nx (i := i) (j := k) (by omega) (by omega); have := hwk.1; omega
        · have := G.newU hi hk2 hw.1 hw.2 hwk.1 hwk.2; omega
    have readH : ∀ b, tauF (X i).H (R i).fx b → ¬ WH X R b i → (R i).hp.bl.get b = (X i).H.bl.get b := fun b ht hw => by
      have h1 := G.fullH b (j := i + 1) (by omega)
      rw [vw_succ_neg (fun c => hw c.2), G.fullH b (by omega), sH] at h1
      exact h1.symm
    have hmem := hO.mem (A' := fun b => vw (lst (listed.setIfInBounds i true)) (WH X R b) ((X 0).H.bl.get b) (fun k => (X (k + 1)).H.bl.get b) ops.size)
      (B' := fun g => vw (lst (listed.setIfInBounds i true)) (WB R g) ((X 0).bx.get g) (fun k => (X (k + 1)).bx.get g) ops.size) hF hI.mem hI.box (G.hn i (by omega)) atH (fun b h1 h2 => newNone b ⟨h1, by rw [sH]; exact h2⟩)
      (fun b I hr ht => by
        by_cases hw : WH X R b i
        · exact setH b hw (.inl (by rw [hr]; simp))
        · show vw _ _ _ _ _ = _
          rw [vw_skip i hne hw, atH b I hr ht, readH b ht hw])
      (fun b h1 h2 => setH b (.inr ⟨h1, by rw [sH]; exact h2⟩) (.inr ⟨h1, by rw [sH]; exact h2⟩))
      (fun b I hr ht hn => by
        show vw _ _ _ _ _ = _
        refine vw_skip i hne (fun hw => ?_) _
        rcases hw with (⟨l, e, hm⟩ | ⟨e, hb⟩) | hw
        · exact ht (by rw [e]; exact ⟨true, hm⟩)
        · exact ht (by rw [e]; exact hb)
        · exact hn ⟨hw.1, by rw [← sH]; exact hw.2⟩)
      (fun g hg => by
        obtain ⟨y, hy⟩ : ∃ y, (R i).fx = .bx g y := by
          cases hfx : (R i).fx with
          | bx g' y => rw [hfx] at hg; exact ⟨y, by rw [show g = g' from hg]⟩
          | _ => rw [hfx] at hg; exact hg.elim
        show vw _ _ _ _ _ = _
        cases y with
        | true =>
          rw [vw_set (W := WB R g) i ops.size hi hne hii hy fun k hk hk2 hlk hwk => later k hk hk2 hlk (G.c4 hk hk2 hwk hy (.inl rfl)), sbx]
        | false =>
          rw [vw_skip (W := WB R g) i hne (fun hw => by unfold WB at hw; rw [hy] at hw; cases hw), atB g hg]
          have := hF.2; rw [hy] at this; rw [this.2.2.2.1 rfl])
      (fun g k hg hb => by
        show vw _ _ _ _ _ = _
        exact vw_skip (W := WB R g) i hne (fun hw => hb (by rw [show (R i).fx = .bx g true from hw]; rfl)) _)
    refine hK _ w' ρ' π' ⟨by simp [hI.size], ?_, ?_, by rw [put_size]; exact hI.asz, by rw [put_defers]; exact hI.defers, hmem.1, hmem.2, ?_, ?_, ?_, ?_⟩
    · intro k hk j hj
      by_cases e : k = i
      · subst e
        by_cases e2 : j = k
        · subst e2; exact hii
        · rw [hne j e2]; exact hpre j hj
      · rw [hne k e] at hk
        have := hI.clo k hk j hj
        by_cases e2 : j = i
        · subst e2; exact hii
        · rw [hne j e2]; exact this
    · intro t s ht
      rw [put_eval t hdlt]
      by_cases hd : ops[i].dst = some t
      · rw [if_pos hd]
        rw [vw_set (W := WR ops t) i ops.size hi hne hii ⟨_, ho, hd⟩ fun k hk hk2 hlk hwk => later k hk hk2 hlk (G.c5 hk hk2 (.inl ⟨⟨_, ho, hd⟩, .inr hwk⟩))] at ht
        cases ht
        exact hO.1
      · rw [if_neg hd]
        rw [vw_skip (W := WR ops t) i hne (fun ⟨o, ho', hd'⟩ => by rw [ho] at ho'; cases ho'; exact hd hd')] at ht
        exact (hI.regs t s ht).mono m1 m2
    · intro b I hr h0 hb
      rcases d1 b I hr with h | ⟨h1, h2⟩
      · obtain ⟨j, j1, j2, j3, j4⟩ := hI.dom b I h h0 hb
        refine ⟨j, j1, ?_, j3, j4⟩
        by_cases e : j = i
        · subst e; exact hii
        · rw [hne j e]; exact j2
      · exact ⟨i, hi, hii, h1, by rw [sH]; exact h2⟩
    · intro g k hg h0
      rcases d2 g k hg with h | ⟨h1, h2⟩
      · obtain ⟨j, j1, j2, j3, j4⟩ := hI.pdom g k h h0
        refine ⟨j, j1, ?_, j3, j4⟩
        by_cases e : j = i
        · subst e; exact hii
        · rw [hne j e]; exact j2
      · exact ⟨i, hi, hii, h1, by rw [snb]; exact h2⟩
    · intro k hk hlk l hl2 b hb
      have up : ρ b ≠ none → ρ' b ≠ none := fun h => by
        cases hr : ρ b with
        | none => exact absurd hr h
        | some I => rw [m1 b I hr]; simp
      by_cases e : k = i
      · subst e
        rcases hO.2 with ⟨l', e1, _, _, e4⟩ | ⟨y, e1, _⟩ | ⟨g, y, e1, _⟩ | ⟨e1, _⟩
        · rw [hl2] at e1; cases e1; exact up (e4 b hb)
        · rw [hl2] at e1; cases e1
        · rw [hl2] at e1; cases e1
        · rw [hl2] at e1; cases e1
      · rw [hne k e] at hlk
        exact up (hI.touch k hk hlk l hl2 b hb)
    · exact hI.cum.step hO hF (G.hn i (by omega)) (hle0 i (by omega)) (by rw [← sH]; have := G.nx (i := i + 1) (j := ops.size) (by omega) (Nat.le_refl _); omega) hfree

theorem vw_none {α : Type} {e : Nat → Bool} {W : Nat → Prop} {init : α} {new : Nat → α} (h : ∀ k, e k = false) (n : Nat) : vw e W init new n = init := by
  induction n with
  | zero => rfl
  | succ n ih => rw [vw_succ_neg (fun c => by rw [h n] at c; cases c.1), ih]
theorem countP_lt {p q : Nat → Bool} (hle : ∀ k, q k = true → p k = true) {i : Nat} (hp : p i = true) (hq : q i = false) : ∀ (l : List Nat), i ∈ l → l.countP q < l.countP p
  | [], h => by cases h
  | k :: l, h => by
    have le : ∀ l : List Nat, l.countP q ≤ l.countP p := fun l => List.countP_mono_left fun k _ => hle k
    rcases List.mem_cons.1 h with rfl | h
    · rw [List.countP_cons_of_pos hp, List.countP_cons_of_neg (by simp [hq])]
      exact Nat.lt_succ_of_le (le l)
    · have ih := countP_lt hle hp hq l h
      by_cases hk : q k = true
      · rw [List.countP_cons_of_pos hk, List.countP_cons_of_pos (hle k hk)]; omega
      · rw [List.countP_cons_of_neg hk]
        by_cases hk2 : p k = true
        · rw [List.countP_cons_of_pos hk2]; omega
        · rw [List.countP_cons_of_neg hk2]; exact ih
theorem any_wp {P : Program} {x : Cx} {C : Orc} {ops : Array Oper} {X : Nat → AS} {R : Nat → Res} (hx : x.P = P) (hT : TabOk P x.tt x.ft) (hC : OrcOk P C) (G : Rg x C ops X R) (hk0 : ∀ t s, (X 0).sl.get t = some s → isVar x.np x.vm t = true)
    {ρ0 : Ren} {H0 : Heap} {N : Nat} {w0 : World} (hfree : ∀ b, H0.nx ≤ b → b < N → ρ0 b = none) (hN : (X ops.size).H.nx ≤ N) (hle0 : ∀ j, j ≤ ops.size → HLe (fun _ => True) H0 (X j).H)
    {Q : Exit → Act → World → Prop} (hQ : ∀ a w ρ π, StR x ρ0 H0 N w0 ρ π (X ops.size).sl (X ops.size).bx (X ops.size).nb (X ops.size).H a w → Q .normal a w) :
    ∀ (fuel : Nat) (listed : Array Bool) (a : Act) (w : World) (ρ : Ren) (π : Nat → Option Nat), AInv x ops X R ρ0 H0 N w0 listed ρ π a w → (List.range ops.size).countP (fun k => !lst listed k) ≤ fuel →
      Go.wpAny P .any ops Q fuel listed a w := by
  have fin : ∀ (listed : Array Bool) (a : Act) (w : World) (ρ : Ren) (π : Nat → Option Nat), AInv x ops X R ρ0 H0 N w0 listed ρ π a w → (∀ k, k < ops.size → lst listed k = true) → Q .normal a w := by
    intro listed a w ρ π hI hall
    have all : ∀ {α : Type} (W : Nat → Prop) (init : α) (new : Nat → α), vw (lst listed) W init new ops.size = vw (fun _ => true) W init new ops.size := fun W init new => vw_before ops.size fun k hk _ => hall k hk
    refine hQ a w ρ π ⟨⟨fun t s h => hI.regs t s ?_, fun t s h => (G.fullS hk0 (Nat.le_refl _) t s h).1, hI.asz, hI.defers, hI.mem.congr (fun b _ _ => ?_) rfl, hI.box.congr (fun g _ _ => ?_) rfl, G.hn _ (Nat.le_refl _), G.bn _ (Nat.le_refl _), fun b h1 h2 => ?_, fun g h1 => ?_⟩, hI.cum, hle0 _ (Nat.le_refl _)⟩
    · rw [all]; exact (G.fullS hk0 (Nat.le_refl _) t s h).2
    · show _ = vw _ _ _ _ _
      rw [all, G.fullH b (Nat.le_refl _)]
    · show _ = vw _ _ _ _ _
      rw [all, G.fullB g (Nat.le_refl _)]
    · cases hr : ρ b with
      | none => rfl
      | some I =>
        obtain ⟨j, j1, _, _, j4⟩ := hI.dom b I hr (Nat.le_trans (G.nx (Nat.zero_le _) (Nat.le_refl _)) h1) h2
        have := G.nx (i := j + 1) (j := ops.size) (by omega) (Nat.le_refl _); omega
    · cases hr : π g with
      | none => rfl
      | some k =>
        obtain ⟨j, j1, _, _, j4⟩ := hI.pdom g k hr (Nat.le_trans (G.nb (Nat.zero_le _) (Nat.le_refl _)) h1)
        have := G.nb (i := j + 1) (j := ops.size) (by omega) (Nat.le_refl _); omega
  have ready : ∀ (listed : Array Bool), listed.size = ops.size → Go.Region.ready .any ops listed = [] → ∀ k, k < ops.size → lst listed k = true := by
    intro listed hsz hr k
    induction k using Nat.strongRecOn with
    | _ k ih =>
      intro hk
      cases hl : lst listed k with
      | true => rfl
      | false =>
        have ho := Array.getElem?_eq_getElem hk
        obtain ⟨io, hany, _, _⟩ := G.at_ k _ ho
        have : k ∈ Go.Region.ready .any ops listed := by
          rw [Go.mem_ready]
          refine ⟨?_, _, ho, fun e he hb => ?_⟩
          · have hks : k < listed.size := by omega
            unfold lst at hl
            simp only [Array.getD_eq_getD_getElem?, Array.getElem?_eq_getElem hks, Option.getD_some] at hl ⊢
            exact hl
          · have := edges_lt hany.edges he hb
            exact ih e.on this (by omega)
        rw [hr] at this; cases this
  intro fuel
  induction fuel with
  | zero =>
    intro listed a w ρ π hI hc
    have hall : ∀ k, k < ops.size → lst listed k = true := fun k hk => by
      cases hl : lst listed k with
      | true => rfl
      | false =>
        have : 0 < (List.range ops.size).countP (fun k => !lst listed k) := List.countP_pos_iff.2 ⟨k, List.mem_range.2 hk, by rw [hl]; rfl⟩
        omega
    refine ⟨?_, fin listed a w ρ π hI hall⟩
    cases hr : Go.Region.ready .any ops listed with
    | nil => rfl
    | cons k l =>
      have hm : k ∈ Go.Region.ready .any ops listed := by rw [hr]; simp
      rw [Go.mem_ready] at hm
      obtain ⟨h1, o, h2, _⟩ := hm
      have hk : k < ops.size := (Array.getElem?_eq_some_iff.1 h2).1
      have := hall k hk
      unfold lst at this
      have hks : k < listed.size := by rw [hI.size]; exact hk
      simp only [Array.getD_eq_getD_getElem?, Array.getElem?_eq_getElem hks, Option.getD_some] at h1 this
      rw [this] at h1; cases h1
  | succ fuel ih =>
    intro listed a w ρ π hI hc
    refine ⟨fun hr => fin listed a w ρ π hI (ready listed hI.size hr), fun i hi => ?_⟩
    rw [Go.mem_ready] at hi
    obtain ⟨h1, o, ho, hedge⟩ := hi
    have hlt : i < ops.size := (Array.getElem?_eq_some_iff.1 ho).1
    have his : i < listed.size := by rw [hI.size]; exact hlt
    have hun : lst listed i = false := by
      unfold lst
      simp only [Array.getD_eq_getD_getElem?, Array.getElem?_eq_getElem his, Option.getD_some] at h1 ⊢
      exact h1
    obtain ⟨io, hany, _, _⟩ := G.at_ i o ho
    refine any_step hx hT hC G hk0 hfree hN hle0 hI hlt hun (fun k hk => ?_) fun a' w' ρ' π' hI' => ih _ a' w' ρ' π' hI' ?_
    · have ep : prAt ops.toList i = preOf (csAt ops.toList i).acc o := by simp only [prAt, Array.getElem?_toList, ho]
      rw [ep] at hk
      obtain ⟨e, he, hb, hk⟩ := pre_bit hk
      have hon : lst listed e.on = true := hedge e he hb
      rcases hk with rfl | hk
      · exact hon
      · have hel := edges_lt hany.edges he hb
        have := (csAt_acc (ops := ops.toList) (j := i) (by simp; omega)).2 e.on hel
        rw [List.getD_eq_getElem?_getD, this] at hk
        exact hI.clo e.on hon k hk
    · have hl := lst_set his
      have := countP_lt (p := fun k => !lst listed k) (q := fun k => !lst (listed.setIfInBounds i true) k) (fun k hq => by
        simp only [hl] at hq
        by_cases e : k = i
        · rw [if_pos e] at hq; cases hq
        · rw [if_neg e] at hq; exact hq) (i := i) (by rw [hun]; rfl) (by rw [hl, if_pos rfl]; rfl) (List.range ops.size) (List.mem_range.2 hlt)
      omega
end Am
