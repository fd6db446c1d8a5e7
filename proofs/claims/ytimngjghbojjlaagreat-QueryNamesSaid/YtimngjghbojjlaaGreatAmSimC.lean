/-
Code, and calls.
-/
import Derived.Test.YtimngjghbojjlaaGreatAmSimA
import Derived.Scope
import Derived.LoopN
namespace Am
open Go (IntKind FloatKind BinOp UnOp Value Addr World Program Act Oper Op Operand TypeDesc TypeInfo TypeId Sem Result Next execOp Func Builtin Exit Ending Calls Code)

/-! ## The abstract machine's own -/
def CdOk : Cd → Prop
  | .reg ios _ => ∀ io ∈ ios, IoOk io
  | .seq a b => CdOk a ∧ CdOk b
  | .cond _ a b => CdOk a ∧ CdOk b
  | .block _ b => CdOk b
  | .loop b => CdOk b
  | _ => True
theorem runAny_le {C : Orc} (hC : OrcLe C) : ∀ (ios : List Io) (j : Nat) (s : AS) (st : St), (∀ io ∈ ios, IoOk io) → (∀ g, s.nb ≤ g → s.bx.get g = none) → (∀ b, s.H.nx ≤ b → s.H.bl.get b = none) →
    runAny C ios j s.hi s.sl s.rs s.bx s.nb s.H = some st → RunLe s.bx s.nb s.H st.bx st.nb st.hp
  | [], j, s, st, _, bn, hn, h => by
    rw [runAny_nil] at h; cases h; exact RunLe.refl bn hn
  | io :: ios, j, s, st, hio, bn, hn, h => by
    obtain ⟨r, s', h1, h2⟩ := runAny_adv h
    have hF := step_fx hC (hio io (by simp)) bn hn h1.res
    have hl := hF.runLe bn hn
    rw [← h1.bx, ← h1.nb, ← h1.H] at hl
    exact hl.trans (runAny_le hC ios (j + 1) s' st (fun io h => hio io (List.mem_cons_of_mem _ h)) hl.bn hl.hn h2)
/-- What a run leaves of a state. -/
def StLe (st st' : St) : Prop := RunLe st.bx st.nb st.hp st'.bx st'.nb st'.hp
def StFine (st : St) : Prop := (∀ g, st.nb ≤ g → st.bx.get g = none) ∧ ∀ b, st.hp.nx ≤ b → st.hp.bl.get b = none
theorem StLe.fine {st st' : St} (h : StLe st st') : StFine st' := ⟨h.bn, h.hn⟩
theorem loopN_le {f : St → Option (Ex × St)} (hf : ∀ st e st', StFine st → f st = some (e, st') → StLe st st') : ∀ (n : Nat) (st : St) (e : Ex) (st' : St), StFine st → loopN f n st = some (e, st') → StLe st st'
  | 0, st, e, st', _, h => by rw [loopN_zero] at h; cases h
  | n + 1, st, e, st', hst, h => by
    rw [loopN_succ] at h
    cases hr : f st with
    | none => rw [hr] at h; cases h
    | some p =>
      obtain ⟨e1, st1⟩ := p
      rw [hr] at h
      have h1 := hf st e1 st1 hst hr
      cases e1 with
      | normal => exact h1.trans (loopN_le hf n st1 e st' h1.fine h)
      | exit i => cases h; exact h1
      | ret => cases h; exact h1
theorem exec_le {C : Orc} (hC : OrcLe C) (n : Nat) : ∀ (cd : Cd), CdOk cd → ∀ (st : St) (e : Ex) (st' : St), StFine st → exec C n cd st = some (e, st') → StLe st st' := by
  intro cd
  induction cd with
  | skip => intro _ st e st' hst h; rw [exec_skip] at h; cases h; exact RunLe.refl hst.1 hst.2
  | reg ios draw =>
    intro hok st e st' hst h
    rw [exec_reg] at h
    cases draw with
    | false =>
      simp only at h
      split at h
      · rename_i st1 hr; cases h
        exact runSeq_le hC ios _ _ _ _ _ _ hok hst.1 hst.2 hr
      · cases h
    | true =>
      simp only at h
      split at h
      · rename_i st1 hr; cases h
        exact runAny_le hC ios 0 ⟨Hist.none, st.sl, [], st.bx, st.nb, st.hp⟩ _ hok hst.1 hst.2 hr
      · cases h
  | seq a b iha ihb =>
    intro hok st e st' hst h
    rw [exec_seq] at h
    cases hr : exec C n a st with
    | none => rw [hr] at h; cases h
    | some p =>
      obtain ⟨e1, st1⟩ := p
      rw [hr] at h
      have h1 := iha hok.1 st e1 st1 hst hr
      cases e1 with
      | normal => exact h1.trans (ihb hok.2 st1 e st' h1.fine h)
      | exit i => cases h; exact h1
      | ret => cases h; exact h1
  | cond c a b iha ihb =>
    intro hok st e st' hst h
    rw [exec_cond] at h
    split at h
    · exact iha hok.1 st e st' hst h
    · exact ihb hok.2 st e st' hst h
    · cases h
  | block id b ih =>
    intro hok st e st' hst h
    rw [exec_block] at h
    cases hr : exec C n b st with
    | none => rw [hr] at h; cases h
    | some p =>
      obtain ⟨e1, st1⟩ := p
      rw [hr] at h
      have h1 := ih hok st e1 st1 hst hr
      cases e1 with
      | normal => cases h; exact h1
      | ret => cases h; exact h1
      | exit i =>
        simp only at h
        generalize Nat.beq i id = q at h
        cases q <;> (cases h; exact h1)
  | loop b ih =>
    intro hok st e st' hst h
    rw [exec_loop] at h
    exact loopN_le (fun st e st' hst h => ih hok st e st' hst h) n st e st' hst h
  | exit id => intro _ st e st' hst h; rw [exec_exit] at h; cases h; exact RunLe.refl hst.1 hst.2
  | ret => intro _ st e st' hst h; rw [exec_ret] at h; cases h; exact RunLe.refl hst.1 hst.2
section
variable {x : Cx}
theorem compileAny_ok {ops : List Oper} {ios : List Io} (h : compileAny x ops 0 [] [] [] = some ios) : ios.length = ops.length ∧ (∀ k o, ops[k]? = some o → ∃ io, ios[k]? = some io ∧ AnyAt x ops k o io) ∧ ∀ io ∈ ios, IoOk io := by
  obtain ⟨h1, h2⟩ := compileAny_at (x := x) (ops := ops) ops 0 ios rfl (Nat.zero_le _) h
  refine ⟨h1, fun k o ho => ?_, fun io hio => ?_⟩
  · obtain ⟨io, q1, q2⟩ := h2 k o ho
    rw [Nat.zero_add] at q2
    exact ⟨io, q1, q2⟩
  · obtain ⟨k, hk, e⟩ := List.getElem_of_mem hio
    have hk' : k < ops.length := by omega
    obtain ⟨io', q1, q2⟩ := h2 k _ (List.getElem?_eq_getElem hk')
    rw [List.getElem?_eq_getElem hk, e] at q1; cases q1
    exact (compileIO_ok q2.io).1
theorem compileRegion_inv {ops : List Oper} {draw : Bool} {cd : Cd} (h : compileRegion x ops draw = some cd) : ∃ ios, cd = .reg ios draw ∧ (match draw with | true => compileAny x ops 0 [] [] [] = some ios | false => compileSeq x ops 0 [] = some ios) := by
  unfold compileRegion regD at h
  cases draw with
  | true =>
    simp only at h
    split at h
    · rename_i ios hi; cases h; exact ⟨ios, rfl, hi⟩
    · cases h
  | false =>
    simp only at h
    split at h
    · rename_i ios hi; cases h; exact ⟨ios, rfl, hi⟩
    · cases h
theorem cdSeq_inv {a b : Option Cd} {cd : Cd} (h : cdSeq a b = some cd) : ∃ a' b', a = some a' ∧ b = some b' ∧ cd = .seq a' b' := by
  cases a with
  | none => cases h
  | some a => cases b with
    | none => cases h
    | some b => cases h; exact ⟨a, b, rfl, rfl, rfl⟩
theorem cdCond_inv {c : Option Opd} {a b : Option Cd} {cd : Cd} (h : cdCond c a b = some cd) : ∃ c' a' b', c = some c' ∧ a = some a' ∧ b = some b' ∧ cd = .cond c' a' b' := by
  cases c with
  | none => cases h
  | some c => cases a with
    | none => cases h
    | some a => cases b with
      | none => cases h
      | some b => cases h; exact ⟨c, a, b, rfl, rfl, rfl, rfl⟩
theorem cdMap_inv {f : Cd → Cd} {a : Option Cd} {cd : Cd} (h : cdMap f a = some cd) : ∃ a', a = some a' ∧ cd = f a' := by
  cases a with
  | none => cases h
  | some a => cases h; exact ⟨a, rfl, rfl⟩
theorem compileCode_ok : ∀ (c : Code) (cd : Cd), compileCode x c = some cd → CdOk cd := by
  intro c
  induction c with
  | skip => intro cd h; cases h; trivial
  | region id ops draw =>
    intro cd h
    obtain ⟨ios, rfl, h2⟩ := compileRegion_inv h
    cases draw with
    | true => exact (compileAny_ok h2).2.2
    | false => exact compileSeq_ok _ _ _ _ h2
  | seq a b iha ihb =>
    intro cd h
    obtain ⟨a', b', h1, h2, rfl⟩ := cdSeq_inv h
    exact ⟨iha a' h1, ihb b' h2⟩
  | cond c a b iha ihb =>
    intro cd h
    obtain ⟨c', a', b', _, h1, h2, rfl⟩ := cdCond_inv h
    exact ⟨iha a' h1, ihb b' h2⟩
  | block id b ih =>
    intro cd h
    obtain ⟨b', h1, rfl⟩ := cdMap_inv h
    exact ih b' h1
  | loop b ih =>
    intro cd h
    obtain ⟨b', h1, rfl⟩ := cdMap_inv h
    exact ih b' h1
  | exit id => intro cd h; cases h; trivial
  | scope b ih => intro cd h; exact ih cd h
  | label l => intro cd h; cases h; trivial
  | ret => intro cd h; cases h; trivial
  | rangeFunc => intro cd h; cases h
  | goto => intro cd h; cases h
  | refuse => intro cd h; cases h
end

/-! ## Code -/
def toExit : Ex → Exit
  | .normal => .normal
  | .exit i => .exit i
  | .ret => .ret
theorem StR.alike {x : Cx} {ρ0 : Ren} {H0 : Heap} {N : Nat} {w0 : World} {ρ : Ren} {π : Nat → Option Nat} {sl : T S} {bx : T (List V)} {nb : Nat} {H : Heap} {a : Act} {w w' : World} (h : StR x ρ0 H0 N w0 ρ π sl bx nb H a w) (hw : w'.Alike w) : StR x ρ0 H0 N w0 ρ π sl bx nb H a w' := by
  refine ⟨⟨h.fr.regs, h.fr.kept, h.fr.size, h.fr.defers, h.fr.mem.congr (fun _ _ _ => rfl) hw.1, h.fr.box.congr (fun _ _ _ => rfl) hw.1, h.fr.hn, h.fr.bn, h.fr.hf, h.fr.pf⟩, ?_, h.hle⟩
  obtain ⟨c1, c2, c3, c4, c5, c6, c7⟩ := h.cum
  exact ⟨c1, c2, by rw [hw.1]; exact c3, fun k hk hno => by rw [hw.1]; exact c4 k hk hno, c5, c6, c7.trans (Outside.alike hw)⟩
theorem region_wp {P : Program} {x : Cx} {C : Orc} (hx : x.P = P) (hT : TabOk P x.tt x.ft) (hC : OrcOk P C) (hm : P.follows .mixedOrders = true) {id : Nat} {ops : Array Oper} {draw : Bool} {ios : List Io}
    (hio : match draw with | true => compileAny x ops.toList 0 [] [] [] = some ios | false => compileSeq x ops.toList 0 [] = some ios) {ρ0 : Ren} {H0 : Heap} {N : Nat} {w0 : World} (hfree : ∀ b, H0.nx ≤ b → b < N → ρ0 b = none)
    {n : Nat} {st st' : St} {ex : Ex} (he : exec C n (.reg ios draw) st = some (ex, st')) (hN : st'.hp.nx ≤ N) {a : Act} {w : World} {ρ : Ren} {π : Nat → Option Nat} (hR : StR x ρ0 H0 N w0 ρ π st.sl st.bx st.nb st.hp a w)
    {Q : Exit → Act → World → Prop} (hQ : ∀ a w ρ π, StR x ρ0 H0 N w0 ρ π st'.sl st'.bx st'.nb st'.hp a w → Q (toExit ex) a w) : (Code.region id ops draw).wp P Q a w := by
  rw [exec_reg] at he
  cases draw with
  | false =>
    simp only at he hio
    split at he
    · rename_i st1 hr
      cases he
      refine Go.wp_region ?_
      rw [List.range_eq_range', ← Array.length_toList]
      refine seq_wp hx hT hC hfree hN hQ ops.toList 0 [] ios _ _ _ _ _ _ _ ρ π rfl (fun j hj => by omega) hio hr ?_ hR
      intro t s _ h
      exact hR.fr.regs t s h
    · cases he
  | true =>
    simp only at he hio
    split at he
    · rename_i st1 hr
      cases he
      have hR' := hR.alike (w' := { w with drawn := w.drawn + 1 }) ⟨rfl, rfl, rfl⟩
      refine Go.wp_region_any hm ?_
      obtain ⟨hlen, hat, hok⟩ := compileAny_ok hio
      obtain ⟨X, R, h0, hadv, hst⟩ := runAny_trace ios 0 ⟨Hist.none, st.sl, [], st.bx, st.nb, st.hp⟩ _ hr
      have hlen' : ios.length = ops.size := by rw [hlen]; exact Array.length_toList
      have G : Rg x C ops X R := Rg.make hC.le (fun j o ho => hat j o (by simpa using ho)) (fun k io hk => by have := hadv k io hk; rwa [Nat.zero_add] at this) (by rw [h0]) (by rw [h0]; exact hR.fr.bn) (by rw [h0]; exact hR.fr.hn)
      rw [hlen'] at hst
      subst hst
      have hle0 : ∀ j, j ≤ ops.size → HLe (fun _ => True) H0 (X j).H := by
        intro j
        induction j with
        | zero => intro _; rw [h0]; exact hR.hle
        | succ j ih =>
          intro hj
          rw [(G.step (by omega)).1]
          exact (ih (by omega)).trans (G.fx j (by omega)).all fun _ _ _ => trivial
      have hls : ∀ k, lst (Array.replicate ops.size false) k = false := fun k => by
        unfold lst
        rw [Array.getD_eq_getD_getElem?, Array.getElem?_replicate]
        split <;> rfl
      refine any_wp hx hT hC G (by rw [h0]; exact hR.fr.kept) hfree hN hle0 hQ ops.size (Array.replicate ops.size false) a _ ρ π ⟨by simp, fun k hk => ?_, fun t s h => ?_, hR'.fr.size, hR'.fr.defers, hR'.fr.mem.congr (fun b _ _ => ?_) rfl, hR'.fr.box.congr (fun g _ _ => ?_) rfl, fun b I hr h1 h2 => ?_, fun g k hg h1 => ?_, fun k _ hk => ?_, hR'.cum⟩ ?_
      · rw [hls k] at hk; cases hk
      · rw [vw_none hls, h0] at h; exact hR'.fr.regs t s h
      · rw [vw_none hls, h0]
      · rw [vw_none hls, h0]
      · rw [h0] at h1
        rw [hR.fr.hf b h1 h2] at hr; cases hr
      · rw [h0] at h1
        rw [hR.fr.pf g h1] at hg; cases hg
      · rw [hls k] at hk; cases hk
      · exact Nat.le_trans List.countP_le_length (by simp)
    · cases he
theorem StR.fine {x : Cx} {ρ0 : Ren} {H0 : Heap} {N : Nat} {w0 : World} {ρ : Ren} {π : Nat → Option Nat} {st : St} {a : Act} {w : World} (h : StR x ρ0 H0 N w0 ρ π st.sl st.bx st.nb st.hp a w) : StFine st := ⟨h.fr.bn, h.fr.hn⟩
theorem code_wp {P : Program} {x : Cx} {C : Orc} (hx : x.P = P) (hT : TabOk P x.tt x.ft) (hC : OrcOk P C) (hm : P.follows .mixedOrders = true) {ρ0 : Ren} {H0 : Heap} {N : Nat} {w0 : World} (hfree : ∀ b, H0.nx ≤ b → b < N → ρ0 b = none) (n : Nat) :
    ∀ (c : Code) (cd : Cd), compileCode x c = some cd → ∀ (st st' : St) (ex : Ex), exec C n cd st = some (ex, st') → st'.hp.nx ≤ N → ∀ (a : Act) (w : World) (ρ : Ren) (π : Nat → Option Nat), StR x ρ0 H0 N w0 ρ π st.sl st.bx st.nb st.hp a w →
      ∀ (Q : Exit → Act → World → Prop), (∀ a w ρ π, StR x ρ0 H0 N w0 ρ π st'.sl st'.bx st'.nb st'.hp a w → Q (toExit ex) a w) → c.wp P Q a w := by
  intro c
  induction c with
  | skip =>
    intro cd h st st' ex he hN a w ρ π hR Q hQ
    cases h
    rw [exec_skip] at he; cases he
    exact Go.wp_skip (hQ a w ρ π hR)
  | label l =>
    intro cd h st st' ex he hN a w ρ π hR Q hQ
    cases h
    rw [exec_skip] at he; cases he
    exact Go.wp_label (hQ a w ρ π hR)
  | exit id =>
    intro cd h st st' ex he hN a w ρ π hR Q hQ
    cases h
    rw [exec_exit] at he; cases he
    exact Go.wp_exit (hQ a w ρ π hR)
  | ret =>
    intro cd h st st' ex he hN a w ρ π hR Q hQ
    cases h
    rw [exec_ret] at he; cases he
    exact Go.wp_ret (hQ a w ρ π hR)
  | region id ops draw =>
    intro cd h st st' ex he hN a w ρ π hR Q hQ
    obtain ⟨ios, rfl, h2⟩ := compileRegion_inv h
    exact region_wp hx hT hC hm (by cases draw <;> exact h2) hfree he hN hR hQ
  | seq c1 c2 ih1 ih2 =>
    intro cd h st st' ex he hN a w ρ π hR Q hQ
    obtain ⟨d1, d2, h1, h2, rfl⟩ := cdSeq_inv h
    rw [exec_seq] at he
    cases hr : exec C n d1 st with
    | none => rw [hr] at he; cases he
    | some p =>
      obtain ⟨e1, st1⟩ := p
      rw [hr] at he
      have hle1 := exec_le hC.le n d1 (compileCode_ok _ _ h1) st e1 st1 hR.fine hr
      refine Go.wp_seq ?_
      cases e1 with
      | normal =>
        have he : exec C n d2 st1 = some (ex, st') := he
        have hle2 := exec_le hC.le n d2 (compileCode_ok _ _ h2) st1 ex st' hle1.fine he
        exact ih1 d1 h1 st st1 .normal hr (Nat.le_trans hle2.hle.nx hN) a w ρ π hR _ fun a1 w1 ρ1 π1 hR1 => ih2 d2 h2 st1 st' ex he hN a1 w1 ρ1 π1 hR1 Q hQ
      | exit i => cases he; exact ih1 d1 h1 st st' (.exit i) hr hN a w ρ π hR _ fun a1 w1 ρ1 π1 hR1 => hQ a1 w1 ρ1 π1 hR1
      | ret => cases he; exact ih1 d1 h1 st st' .ret hr hN a w ρ π hR _ fun a1 w1 ρ1 π1 hR1 => hQ a1 w1 ρ1 π1 hR1
  | cond c c1 c2 ih1 ih2 =>
    intro cd h st st' ex he hN a w ρ π hR Q hQ
    obtain ⟨c', d1, d2, h0, h1, h2, rfl⟩ := cdCond_inv h
    rw [exec_cond] at he
    have hE : EnR ρ π ⟨[], none⟩ ⟨st.sl, []⟩ a := fun t s _ ht => hR.fr.regs t s ht
    split at he
    · rename_i hv
      have := (opd_okV hE h0 hv).inv_b
      exact Go.wp_cond_true this (ih1 d1 h1 st st' ex he hN a w ρ π hR Q hQ)
    · rename_i hv
      have := (opd_okV hE h0 hv).inv_b
      exact Go.wp_cond_false this (ih2 d2 h2 st st' ex he hN a w ρ π hR Q hQ)
    · cases he
  | block id b ih =>
    intro cd h st st' ex he hN a w ρ π hR Q hQ
    obtain ⟨d, h1, rfl⟩ := cdMap_inv h
    rw [exec_block] at he
    refine Go.wp_block ?_
    cases hr : exec C n d st with
    | none => rw [hr] at he; cases he
    | some p =>
      obtain ⟨e1, st1⟩ := p
      rw [hr] at he
      cases e1 with
      | normal => cases he; exact ih d h1 st st' .normal hr hN a w ρ π hR _ fun a1 w1 ρ1 π1 hR1 => hQ a1 w1 ρ1 π1 hR1
      | ret => cases he; exact ih d h1 st st' .ret hr hN a w ρ π hR _ fun a1 w1 ρ1 π1 hR1 => hQ a1 w1 ρ1 π1 hR1
      | exit i =>
        simp only at he
        cases hq : Nat.beq i id with
        | true =>
          rw [hq, cond_true] at he; cases he
          have : i = id := Nat.eq_of_beq_eq_true hq
          refine ih d h1 st st' (.exit i) hr hN a w ρ π hR _ fun a1 w1 ρ1 π1 hR1 => ?_
          show if i = id then Q .normal a1 w1 else Q (.exit i) a1 w1
          rw [if_pos this]; exact hQ a1 w1 ρ1 π1 hR1
        | false =>
          rw [hq, cond_false] at he; cases he
          have : i ≠ id := Nat.ne_of_beq_eq_false hq
          refine ih d h1 st st' (.exit i) hr hN a w ρ π hR _ fun a1 w1 ρ1 π1 hR1 => ?_
          show if i = id then Q .normal a1 w1 else Q (.exit i) a1 w1
          rw [if_neg this]; exact hQ a1 w1 ρ1 π1 hR1
  | loop b ih =>
    intro cd h st st' ex he hN a w ρ π hR Q hQ
    obtain ⟨d, h1, rfl⟩ := cdMap_inv h
    rw [exec_loop] at he
    refine Go.wp_loop_rounds n ?_
    have key : ∀ (m : Nat) (st : St) (a : Act) (w : World) (ρ : Ren) (π : Nat → Option Nat), loopN (exec C n d) m st = some (ex, st') → StR x ρ0 H0 N w0 ρ π st.sl st.bx st.nb st.hp a w → Code.rounds P b Q m a w := by
      intro m
      induction m with
      | zero => intro st a w ρ π hl _; rw [loopN_zero] at hl; cases hl
      | succ m ihm =>
        intro st a w ρ π hl hR
        rw [loopN_succ] at hl
        rw [Go.rounds_succ]
        cases hr : exec C n d st with
        | none => rw [hr] at hl; cases hl
        | some p =>
          obtain ⟨e1, st1⟩ := p
          rw [hr] at hl
          have hle1 := exec_le hC.le n d (compileCode_ok _ _ h1) st e1 st1 hR.fine hr
          cases e1 with
          | normal =>
            have hl : loopN (exec C n d) m st1 = some (ex, st') := hl
            have hle2 := loopN_le (fun st e st' hst h => exec_le hC.le n d (compileCode_ok _ _ h1) st e st' hst h) m st1 ex st' hle1.fine hl
            exact ih d h1 st st1 .normal hr (Nat.le_trans hle2.hle.nx hN) a w ρ π hR _ fun a1 w1 ρ1 π1 hR1 => ihm st1 a1 w1 ρ1 π1 hl hR1
          | exit i => cases hl; exact ih d h1 st st' (.exit i) hr hN a w ρ π hR _ fun a1 w1 ρ1 π1 hR1 => hQ a1 w1 ρ1 π1 hR1
          | ret => cases hl; exact ih d h1 st st' .ret hr hN a w ρ π hR _ fun a1 w1 ρ1 π1 hR1 => hQ a1 w1 ρ1 π1 hR1
    exact key n st a w ρ π he hR
  | scope b ih =>
    intro cd h st st' ex he hN a w ρ π hR Q hQ
    refine Go.wp_scope_straight (ih cd h st st' ex he hN a w ρ π hR _ fun a1 w1 ρ1 π1 hR1 => ?_)
    have := hQ a1 w1 ρ1 π1 hR1
    cases ex <;> exact this
  | rangeFunc => intro cd h; cases h
  | goto => intro cd h; cases h
  | refuse => intro cd h; cases h
end Am
