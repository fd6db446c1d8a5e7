/-
Regions in the order of their text; frames.
-/
import Derived.Test.YtimngjghbojjlaaGreatAmSimR
namespace Am
open Go (IntKind FloatKind BinOp UnOp Value Addr World Program Act Oper Op Operand TypeDesc TypeInfo TypeId Sem Result Next execOp Func Builtin Exit Ending Calls)

/-! ## The abstract machine's own -/
def IoOk : Io → Prop
  | .pu _ _ _ _ => True
  | .me _ _ f _ => MOk f
section
variable {C : Orc} {sl : T S} {rs : List S} {bx : T (List V)} {nb : Nat} {H : Heap} {res : Res}
theorem step_fx (hC : OrcLe C) {io : Io} (hio : IoOk io) (bn : ∀ g, nb ≤ g → bx.get g = none) (hn : ∀ b, H.nx ≤ b → H.bl.get b = none) (h : stepIo C io sl rs bx nb H = some res) : FxOk H bx nb res := by
  cases io with
  | pu d g f p =>
    simp only [stepIo] at h
    split at h
    · cases h; exact ⟨LoStep.refl H, rfl, rfl, rfl⟩
    · cases h
  | me d g f p =>
    simp only [stepIo, runMe] at h
    split at h
    · exact hio C hC _ _ _ _ _ bn hn h
    · cases h; exact ⟨LoStep.refl H, rfl, rfl, rfl⟩
    · cases h
theorem FxOk.bn (hF : FxOk H bx nb res) (bn : ∀ g, nb ≤ g → bx.get g = none) : ∀ g, res.nb ≤ g → res.bx.get g = none := by
  have hF := hF.2
  cases hfx : res.fx with
  | pu => rw [hfx] at hF; rw [hF.2.1, hF.2.2]; exact bn
  | bx g y => rw [hfx] at hF; exact hF.2.2.2.2.1
  | hs l => rw [hfx] at hF; rw [hF.1, hF.2.1]; exact bn
  | ha y => rw [hfx] at hF; rw [hF.1, hF.2.1]; exact bn
theorem FxOk.nbLe (hF : FxOk H bx nb res) : nb ≤ res.nb := by
  have hF := hF.2
  cases hfx : res.fx with
  | pu => rw [hfx] at hF; rw [hF.2.2]; exact Nat.le_refl _
  | bx g y => rw [hfx] at hF; exact hF.2.1
  | hs l => rw [hfx] at hF; rw [hF.2.1]; exact Nat.le_refl _
  | ha y => rw [hfx] at hF; rw [hF.2.1]; exact Nat.le_refl _
theorem FxOk.hn (hF : FxOk H bx nb res) (hn : ∀ b, H.nx ≤ b → H.bl.get b = none) : ∀ b, res.hp.nx ≤ b → res.hp.bl.get b = none := by
  obtain ⟨ω, h, _⟩ := hF.hle; exact h.none_ hn
theorem FxOk.all (hF : FxOk H bx nb res) : HLe (fun _ => True) H res.hp := by
  obtain ⟨ω, h, _⟩ := hF.hle; exact h.weaken fun _ _ _ => trivial

/-- What a run of the abstract machine leaves of a frame's state. -/
structure RunLe (bx : T (List V)) (nb : Nat) (H : Heap) (bx' : T (List V)) (nb' : Nat) (H' : Heap) : Prop where
  hle : HLe (fun _ => True) H H'
  lo : LoStep H H'
  bn : ∀ g, nb' ≤ g → bx'.get g = none
  hn : ∀ b, H'.nx ≤ b → H'.bl.get b = none
  nbl : nb ≤ nb'
theorem RunLe.refl (bn : ∀ g, nb ≤ g → bx.get g = none) (hn : ∀ b, H.nx ≤ b → H.bl.get b = none) : RunLe bx nb H bx nb H := ⟨HLe.refl _ H, LoStep.refl H, bn, hn, Nat.le_refl _⟩
theorem RunLe.trans {bx1 bx2 : T (List V)} {nb1 nb2 : Nat} {H1 H2 : Heap} (h1 : RunLe bx nb H bx1 nb1 H1) (h2 : RunLe bx1 nb1 H1 bx2 nb2 H2) : RunLe bx nb H bx2 nb2 H2 :=
  ⟨h1.hle.trans h2.hle fun _ _ _ => trivial, h1.lo.trans h2.lo h1.hle.nx, h2.bn, h2.hn, Nat.le_trans h1.nbl h2.nbl⟩
theorem FxOk.runLe (hF : FxOk H bx nb res) (bn : ∀ g, nb ≤ g → bx.get g = none) (hn : ∀ b, H.nx ≤ b → H.bl.get b = none) : RunLe bx nb H res.bx res.nb res.hp :=
  ⟨hF.all, hF.1, hF.bn bn, hF.hn hn, hF.nbLe⟩
theorem runSeq_le (hC : OrcLe C) : ∀ (ios : List Io) (sl : T S) (rs : List S) (bx : T (List V)) (nb : Nat) (H : Heap) (st : St), (∀ io ∈ ios, IoOk io) → (∀ g, nb ≤ g → bx.get g = none) → (∀ b, H.nx ≤ b → H.bl.get b = none) →
    runSeq C ios sl rs bx nb H = some st → RunLe bx nb H st.bx st.nb st.hp
  | [], sl, rs, bx, nb, H, st, _, bn, hn, h => by
    rw [runSeq_nil] at h; cases h; exact RunLe.refl bn hn
  | io :: ios, sl, rs, bx, nb, H, st, hio, bn, hn, h => by
    rw [runSeq_step] at h
    cases hr : stepIo C io sl rs bx nb H with
    | none => rw [hr] at h; cases h
    | some r =>
      rw [hr] at h
      have hF := step_fx hC (hio io (by simp)) bn hn hr
      have h1 := hF.runLe bn hn
      exact h1.trans (runSeq_le hC ios _ _ _ _ _ st (fun io h => hio io (List.mem_cons_of_mem _ h)) h1.bn h1.hn h)
end

/-! ## Frames -/
/-- How a frame of the abstract machine stands to one of the model's. -/
structure FrR (x : Cx) (N : Nat) (ρ : Ren) (π : Nat → Option Nat) (sl : T S) (bx : T (List V)) (nb : Nat) (H : Heap) (a : Act) (w : World) : Prop where
  regs : ∀ t s, sl.get t = some s → SR ρ π s (a.eval (.tmp t))
  kept : ∀ t s, sl.get t = some s → isVar x.np x.vm t = true
  size : a.tmps.size = x.nt
  defers : a.defers = []
  mem : MemR ρ H.bl.get w
  box : BoxR ρ π bx.get w
  hn : ∀ b, H.nx ≤ b → H.bl.get b = none
  bn : ∀ g, nb ≤ g → bx.get g = none
  hf : ∀ b, H.nx ≤ b → b < N → ρ b = none
  pf : ∀ g, nb ≤ g → π g = none
/-- The same, and what has been done since a beginning. -/
structure StR (x : Cx) (ρ0 : Ren) (H0 : Heap) (N : Nat) (w0 : World) (ρ : Ren) (π : Nat → Option Nat) (sl : T S) (bx : T (List V)) (nb : Nat) (H : Heap) (a : Act) (w : World) : Prop where
  fr : FrR x N ρ π sl bx nb H a w
  cum : Cum ρ0 H0 N w0 ρ π w
  hle : HLe (fun _ => True) H0 H

theorem OutR.monoR {ρ ρ' : Ren} {π π' : Nat → Option Nat} {H : Heap} {bx : T (List V)} {nb : Nat} {w w' : World} {res : Res} {c : Value} (hO : OutR ρ π H bx nb w res c w' ρ' π') : ρ.le ρ' ∧ ∀ g k, π g = some k → π' g = some k := by
  rcases hO.2 with ⟨l, _, e2, e3, _⟩ | ⟨y, _, e2, e3⟩ | ⟨g, y, _, e2, e3, _⟩ | ⟨_, e2, e3, _⟩
  · subst e2; exact ⟨e3.mono, fun _ _ h => h⟩
  · subst e2; exact ⟨e3.mono, fun _ _ h => h⟩
  · subst e2; exact ⟨fun _ _ h => h, e3.mono⟩
  · subst e2 e3; exact ⟨fun _ _ h => h, fun _ _ h => h⟩
section
variable {x : Cx} {ρ ρ' : Ren} {π π' : Nat → Option Nat} {a : Act} {sl : T S} {rs : List S} {ws : Ws}
theorem putS_get (sl : T S) (d : Option Nat) (s : S) (t : Nat) : (putS sl d s).get t = if d = some t then some s else sl.get t := by
  cases d with
  | none => simp [putS]
  | some d =>
    simp only [putS, T.get_set, Option.some.injEq]
    by_cases h : t = d
    · rw [if_pos h, if_pos h.symm]
    · rw [if_neg h, if_neg (Ne.symm h)]
theorem put_eval {d : Option Nat} {c : Value} (t : Nat) (hd : ∀ d', d = some d' → d' < a.tmps.size) : (a.put d c).eval (.tmp t) = if d = some t then c else a.eval (.tmp t) := by
  cases d with
  | none => simp [Act.put]
  | some d =>
    have hlt := hd d rfl
    simp only [Act.put, Act.eval, Option.some.injEq]
    by_cases h : d = t
    · subst h; simp [hlt]
    · rw [if_neg h]; simp [h]
theorem findW_shift (t : Nat) : ∀ (ws : Ws) (k : Nat), findW t ws (Nat.succ k) = (findW t ws k).map Nat.succ
  | [], k => rfl
  | w :: ws, k => by
    simp only [findW]
    cases isD t w with
    | true => rfl
    | false => rw [cond_false, cond_false, findW_shift t ws (Nat.succ k)]
theorem isD_iff (t : Nat) (d : Option Nat) : isD t d = decide (d = some t) := by
  cases d with
  | none => simp [isD]
  | some d => simp [isD, beq_dec]
theorem EnR.next {m : Option Nat} (hE : EnR ρ π ⟨ws, none⟩ ⟨sl, rs⟩ a) (hρ : ρ.le ρ') (hπ : ∀ g k, π g = some k → π' g = some k) {s : S} {c : Value} (hs : SR ρ' π' s c) {d : Option Nat} (hd : ∀ d', d = some d' → d' < a.tmps.size) {np vm : Nat} :
    EnR ρ' π' ⟨d :: ws, m⟩ ⟨putS sl (keep np vm d) s, s :: rs⟩ (a.put d c) := by
  intro t s' _ he
  rw [put_eval t hd]
  simp only [findW] at he
  rw [isD_iff] at he
  by_cases h : d = some t
  · simp only [h, decide_true, cond_true, opdT, ev, nth_eq] at he
    rw [if_pos h]
    simp at he
    subst he; exact hs
  · simp only [h, decide_false, cond_false] at he
    rw [if_neg h]
    have he2 : ev ⟨sl, rs⟩ (opdT t (findW t ws 0)) = some s' := by
      rw [findW_shift] at he
      cases hf : findW t ws 0 with
      | none =>
        rw [hf] at he
        simp only [Option.map_none, opdT, ev] at he ⊢
        rw [putS_get, if_neg] at he
        · exact he
        · intro e
          unfold keep at e
          cases d with
          | none => cases e
          | some d =>
            simp only at e
            cases hv : isVar np vm d with
            | true => rw [hv, cond_true] at e; exact h e
            | false => rw [hv] at e; cases e
      | some k =>
        rw [hf] at he
        simp only [Option.map_some, opdT, ev, nth_eq] at he ⊢
        rw [List.getElem?_cons_succ] at he
        exact he
    exact (hE t s' rfl he2).mono hρ hπ

theorem boxF_dec (fx : Fx) (g : Nat) : boxF fx g ∨ ¬ boxF fx g := by
  cases fx with
  | bx g' y => exact (Decidable.em (g = g'))
  | _ => exact .inr fun h => h
theorem FxOk.keepA {H : Heap} {bx : T (List V)} {nb : Nat} {res : Res} (hF : FxOk H bx nb res) (hn : ∀ b, H.nx ≤ b → H.bl.get b = none) (b : Nat) (h1 : ¬ tauF H res.fx b) (h2 : ¬ (H.nx ≤ b ∧ b < res.hp.nx)) : res.hp.bl.get b = H.bl.get b := by
  obtain ⟨ω, hle, hω⟩ := hF.hle
  rcases Nat.lt_or_ge b H.nx with k | k
  · exact hle.same b k fun e => h1 (hω b k e)
  · rw [hn b k, hF.hn hn b (by omega)]
theorem FxOk.keepB {H : Heap} {bx : T (List V)} {nb : Nat} {res : Res} (hF : FxOk H bx nb res) (g : Nat) (h1 : ¬ boxF res.fx g) : res.bx.get g = bx.get g := by
  have hF := hF.2
  cases hfx : res.fx with
  | pu => rw [hfx] at hF; rw [hF.2.1]
  | bx g' y => rw [hfx] at hF h1; exact hF.2.2.1 g h1
  | hs l => rw [hfx] at hF; rw [hF.1]
  | ha y => rw [hfx] at hF; rw [hF.1]
theorem OutR.hf {H : Heap} {bx : T (List V)} {nb N : Nat} {w w' : World} {res : Res} {c : Value} (hO : OutR ρ π H bx nb w res c w' ρ' π') (hF : FxOk H bx nb res) (h : ∀ b, H.nx ≤ b → b < N → ρ b = none) : ∀ b, res.hp.nx ≤ b → b < N → ρ' b = none := by
  intro b h1 h2
  have hnx := hF.nx
  cases hr : ρ' b with
  | none => rfl
  | some I =>
    have h0 := h b (by omega) h2
    rcases hO.2 with ⟨l, _, e2, e3, _⟩ | ⟨y, _, e2, e3⟩ | ⟨g, y, _, e2, e3, _⟩ | ⟨_, e2, e3, _⟩
    · rcases e3.dom b I hr with k | k
      · rw [h0] at k; cases k
      · omega
    · rcases e3.dom b I hr with k | k
      · rw [h0] at k; cases k
      · omega
    · subst e2; rw [h0] at hr; cases hr
    · subst e2; rw [h0] at hr; cases hr
theorem OutR.pf {H : Heap} {bx : T (List V)} {nb : Nat} {w w' : World} {res : Res} {c : Value} (hO : OutR ρ π H bx nb w res c w' ρ' π') (hF : FxOk H bx nb res) (h : ∀ g, nb ≤ g → π g = none) : ∀ g, res.nb ≤ g → π' g = none := by
  intro g h1
  have hnb := hF.nbLe
  cases hr : π' g with
  | none => rfl
  | some k =>
    have h0 := h g (by omega)
    rcases hO.2 with ⟨l, _, e2, e3, _⟩ | ⟨y, _, e2, e3⟩ | ⟨g', y, _, e2, e3, _⟩ | ⟨_, e2, e3, _⟩
    · subst e2; rw [h0] at hr; cases hr
    · subst e2; rw [h0] at hr; cases hr
    · rcases e3.dom g k hr with q | ⟨_, _, q, _⟩
      · rw [h0] at q; cases q
      · omega
    · subst e3; rw [h0] at hr; cases hr
theorem put_size (a : Act) (d : Option Nat) (c : Value) : (a.put d c).tmps.size = a.tmps.size := by cases d <;> simp [Act.put]
theorem put_defers (a : Act) (d : Option Nat) (c : Value) : (a.put d c).defers = a.defers := by cases d <;> rfl
theorem dst_lt {nt : Nat} {d : Option Nat} (h : dstOk nt d = true) {n : Nat} (hn : n = nt) : ∀ d', d = some d' → d' < n := by
  intro d' e; subst e; subst hn
  simp only [dstOk] at h
  rw [Nat.blt_eq] at h; exact h
theorem keep_some {np vm : Nat} {d : Option Nat} {t : Nat} (h : keep np vm d = some t) : d = some t ∧ isVar np vm t = true := by
  unfold keep at h
  cases d with
  | none => cases h
  | some d =>
    simp only at h
    cases hv : isVar np vm d with
    | true => rw [hv, cond_true] at h; cases h; exact ⟨rfl, hv⟩
    | false => rw [hv] at h; cases h
theorem keep_of {np vm : Nat} {d : Option Nat} {t : Nat} (h : d = some t) (hv : isVar np vm t = true) : keep np vm d = some t := by
  subst h; simp only [keep, hv, cond_true]
theorem FrR.next {N : Nat} {bx : T (List V)} {nb : Nat} {H : Heap} {w w' : World} {res : Res} {c : Value} (hR : FrR x N ρ π sl bx nb H a w) (hO : OutR ρ π H bx nb w res c w' ρ' π') (hF : FxOk H bx nb res) (hN : res.hp.nx ≤ N) {d : Option Nat} (hd : dstOk x.nt d = true) :
    FrR x N ρ' π' (putS sl (keep x.np x.vm d) res.s) res.bx res.nb res.hp (a.put d c) w' := by
  have hlt := dst_lt hd hR.size
  obtain ⟨m1, m2⟩ := hO.monoR
  have hmem := hO.mem (A' := res.hp.bl.get) (B' := res.bx.get) hF hR.mem hR.box hR.hn (fun _ _ _ _ => rfl) (fun b h1 h2 => hR.hf b h1 (by omega)) (fun _ _ _ _ => rfl) (fun _ _ _ => rfl)
    (fun b I _ h1 h2 => hF.keepA hR.hn b h1 h2) (fun _ _ => rfl) (fun g k _ h => hF.keepB g h)
  refine ⟨fun t s h => ?_, fun t s h => ?_, by rw [put_size]; exact hR.size, by rw [put_defers]; exact hR.defers, hmem.1, hmem.2, hF.hn hR.hn, hF.bn hR.bn, hO.hf hF hR.hf, hO.pf hF hR.pf⟩
  · rw [put_eval t hlt]
    rw [putS_get] at h
    by_cases e : keep x.np x.vm d = some t
    · rw [if_pos e] at h; cases h
      rw [if_pos (keep_some e).1]; exact hO.1
    · rw [if_neg e] at h
      by_cases e2 : d = some t
      · exact absurd (keep_of e2 (hR.kept t s h)) e
      · rw [if_neg e2]; exact (hR.regs t s h).mono m1 m2
  · rw [putS_get] at h
    by_cases e : keep x.np x.vm d = some t
    · exact (keep_some e).2
    · rw [if_neg e] at h; exact hR.kept t s h
theorem StR.next {ρ0 : Ren} {H0 : Heap} {w0 : World} {N : Nat} {bx : T (List V)} {nb : Nat} {H : Heap} {w w' : World} {res : Res} {c : Value} (hR : StR x ρ0 H0 N w0 ρ π sl bx nb H a w) (hfree : ∀ b, H0.nx ≤ b → b < N → ρ0 b = none) (hO : OutR ρ π H bx nb w res c w' ρ' π') (hF : FxOk H bx nb res) (hN : res.hp.nx ≤ N) {d : Option Nat} (hd : dstOk x.nt d = true) :
    StR x ρ0 H0 N w0 ρ' π' (putS sl (keep x.np x.vm d) res.s) res.bx res.nb res.hp (a.put d c) w' :=
  ⟨hR.fr.next hO hF hN hd, hR.cum.step hO hF hR.fr.hn hR.hle hN hfree, hR.hle.trans hF.all fun _ _ _ => trivial⟩
end

/-! ## A region in the order of its text -/
section
variable {P : Program} {x : Cx} {C : Orc}
theorem compileIO_ok {wr : Wr} {o : Oper} {pre : Nat} {g : Option (Option (Opd × Bool))} {io : Io} (h : compileIO x wr o pre g = some io) : IoOk io ∧ io.dst = keep x.np x.vm o.dst ∧ io.pre = pre := by
  obtain ⟨g', _, ⟨f, hf, rfl⟩ | ⟨f, hf, rfl⟩⟩ := compileIO_inv h
  · exact ⟨trivial, rfl, rfl⟩
  · exact ⟨ok_compile hf, rfl, rfl⟩
theorem compileSeq_cons {o : Oper} {os : List Oper} {i : Nat} {ws : Ws} {ios : List Io} (h : compileSeq x (o :: os) i ws = some ios) :
    dstOk x.nt o.dst = true ∧ guardOk ws i o = true ∧ ∃ io ios', compileIO x ⟨ws, none⟩ o 0 (guardOf i o) = some io ∧ compileSeq x os (i + 1) (o.dst :: ws) = some ios' ∧ ios = io :: ios' := by
  simp only [compileSeq] at h
  cases hb : (dstOk x.nt o.dst && guardOk ws i o) with
  | false => rw [hb] at h; cases h
  | true =>
    rw [hb, cond_true] at h
    rw [Bool.and_eq_true] at hb
    cases hio : compileIO x ⟨ws, none⟩ o 0 (guardOf i o) with
    | none => rw [hio] at h; cases h
    | some io =>
      rw [hio] at h
      simp only [consO_map, Option.map_eq_some_iff] at h
      obtain ⟨ios', h1, rfl⟩ := h
      exact ⟨hb.1, hb.2, io, ios', rfl, h1, rfl⟩
theorem compileSeq_ok : ∀ (os : List Oper) (i : Nat) (ws : Ws) (ios : List Io), compileSeq x os i ws = some ios → ∀ io ∈ ios, IoOk io
  | [], i, ws, ios, h => by simp only [compileSeq, Option.some.injEq] at h; subst h; intro io hio; cases hio
  | o :: os, i, ws, ios, h => by
    obtain ⟨_, _, io, ios', h1, h2, rfl⟩ := compileSeq_cons h
    intro io' hio
    rcases List.mem_cons.1 hio with rfl | hio
    · exact (compileIO_ok h1).1
    · exact compileSeq_ok os _ _ _ h2 io' hio
theorem seq_wp (hx : x.P = P) (hT : TabOk P x.tt x.ft) (hC : OrcOk P C) {ops : Array Oper} {Q : Exit → Act → World → Prop} {ρ0 : Ren} {H0 : Heap} {N : Nat} {w0 : World} (hfree : ∀ b, H0.nx ≤ b → b < N → ρ0 b = none) {st : St} (hN : st.hp.nx ≤ N)
    (hQ : ∀ a w ρ π, StR x ρ0 H0 N w0 ρ π st.sl st.bx st.nb st.hp a w → Q .normal a w) :
    ∀ (os : List Oper) (i : Nat) (ws : Ws) (ios : List Io) (sl : T S) (rs : List S) (bx : T (List V)) (nb : Nat) (H : Heap) (a : Act) (w : World) (ρ : Ren) (π : Nat → Option Nat),
      ops.toList.drop i = os → (∀ j, j < i → ∀ oj, ops[j]? = some oj → ws[i - 1 - j]? = some oj.dst) → compileSeq x os i ws = some ios → runSeq C ios sl rs bx nb H = some st →
      EnR ρ π ⟨ws, none⟩ ⟨sl, rs⟩ a → StR x ρ0 H0 N w0 ρ π sl bx nb H a w → Go.wpOps P ops Q (List.range' i os.length) a w := by
  intro os
  induction os with
  | nil =>
    intro i ws ios sl rs bx nb H a w ρ π _ _ hc hr _ hR
    simp only [compileSeq, Option.some.injEq] at hc; subst hc
    rw [runSeq_nil] at hr; cases hr
    simp only [List.length_nil, List.range'_zero, Go.wpOps]
    exact hQ a w ρ π hR
  | cons o os ih =>
    intro i ws ios sl rs bx nb H a w ρ π hos hws hc hr hE hR
    obtain ⟨hd, hg, io, ios', hio, hc', rfl⟩ := compileSeq_cons hc
    rw [runSeq_step] at hr
    cases hres : stepIo C io sl rs bx nb H with
    | none => rw [hres] at hr; cases hr
    | some res =>
      rw [hres] at hr
      simp only at hr
      have hi : i < ops.size := by
        rcases Nat.lt_or_ge i ops.size with h | h
        · exact h
        · rw [List.drop_of_length_le (by simpa using h)] at hos; cases hos
      have ho : ops[i]? = some o := by
        have := congrArg List.head? hos
        rw [List.head?_drop] at this
        simpa using this
      have hos' : ops.toList.drop (i + 1) = os := by
        have := congrArg List.tail hos
        rw [List.tail_drop] at this
        simpa using this
      obtain ⟨hok, hdst, _⟩ := compileIO_ok hio
      have hF := step_fx hC.le hok hR.fr.bn hR.fr.hn hres
      have hle := runSeq_le hC.le ios' _ _ _ _ _ st (compileSeq_ok _ _ _ _ hc') (hF.bn hR.fr.bn) (hF.hn hR.fr.hn) hr
      have hN' : res.hp.nx ≤ N := Nat.le_trans hle.hle.nx hN
      rw [List.length_cons, List.range'_succ, Go.wpOps_cons]
      refine op_wp hx hT hC (A := H.bl.get) (B := bx.get) ho hio hE ?_ hres ?_ ?_
      · intro g' r hg' hw
        exact guard_ok hws (fun j hj => ⟨_, Array.getElem?_eq_getElem (by omega)⟩) hg hg' (fun _ _ _ _ _ => rfl) hE hw
      · refine ⟨⟨hR.fr.mem, hR.fr.box, fun _ _ _ _ _ _ => rfl, fun _ _ _ _ _ _ => rfl, hR.fr.hn, fun b h1 h2 => hR.fr.hf b h1 (by omega), fun g h1 _ => hR.fr.pf g h1, hR.fr.bn⟩, fun _ _ => hR.fr.mem⟩
      · intro c w' ρ' π' hO
        obtain ⟨m1, m2⟩ := hO.monoR
        have hlt := dst_lt hd hR.fr.size
        rw [hdst] at hr
        refine ih (i + 1) (o.dst :: ws) ios' _ _ _ _ _ _ _ ρ' π' hos' ?_ hc' hr (hE.next m1 m2 hO.1 hlt) (hR.next hfree hO hF hN' hd)
        intro j hj oj hoj
        by_cases e : j = i
        · subst e
          rw [ho] at hoj; cases hoj
          have : j + 1 - 1 - j = 0 := by omega
          rw [this]; rfl
        · have h1 := hws j (by omega) oj hoj
          have : i + 1 - 1 - j = (i - 1 - j) + 1 := by omega
          rw [this, List.getElem?_cons_succ]; exact h1
end
end Am
