/-
Regions: one operation in a region; a region in the order of its text.
-/
import Derived.Test.YtimngjghbojjlaaGreatAmSimX
import Derived.Orders
namespace Am
open Go (IntKind FloatKind BinOp UnOp Value Addr World Program Act Oper Op Operand TypeDesc TypeInfo TypeId Sem Result Next execOp Func Builtin Exit Ending Calls)

/-- One operation of the abstract machine. -/
noncomputable def stepIo (C : Orc) (io : Io) (sl : T S) (rs : List S) (bx : T (List V)) (nb : Nat) (H : Heap) : Option Res :=
  match io with
  | .pu _ g f _ => match runPu g f sl rs with
    | some s => some ⟨s, bx, nb, H, .pu⟩
    | none => none
  | .me _ g f _ => runMe C g f sl rs bx nb H
def Io.dst : Io → Option Nat
  | .pu d _ _ _ => d
  | .me d _ _ _ => d
def Io.pre : Io → Nat
  | .pu _ _ _ p => p
  | .me _ _ _ p => p
theorem runSeq_step (C : Orc) (io : Io) (os : List Io) (sl : T S) (rs : List S) (bx : T (List V)) (nb : Nat) (H : Heap) :
    runSeq C (io :: os) sl rs bx nb H = (match stepIo C io sl rs bx nb H with
      | some r => runSeq C os (putS sl io.dst r.s) (r.s :: rs) r.bx r.nb r.hp
      | none => none) := by
  cases io with
  | pu d g f p =>
    rw [runSeq_pu]
    simp only [stepIo]
    cases runPu g f sl rs <;> rfl
  | me d g f p =>
    rw [runSeq_me]
    rfl

/-- What an operation came to. -/
def OutR (ρ : Ren) (π : Nat → Option Nat) (H : Heap) (bx : T (List V)) (nb : Nat) (w : World) (res : Res) (c : Value) (w' : World) (ρ' : Ren) (π' : Nat → Option Nat) : Prop :=
  SR ρ' π' res.s c ∧
  ((∃ l, res.fx = .hs l ∧ π' = π ∧ HStep ρ (tl l) H w res.hp w' ρ' ∧ ∀ b, tl l b → ρ b ≠ none) ∨
   (∃ x, res.fx = .ha x ∧ π' = π ∧ HStep ρ (fun b => b < H.nx) H w res.hp w' ρ') ∨
   (∃ g x, res.fx = .bx g x ∧ ρ' = ρ ∧ BStep ρ π g bx nb w res.bx res.nb w' π' ∧ (g < nb → π g ≠ none)) ∨
   (res.fx = .pu ∧ ρ' = ρ ∧ π' = π ∧ w'.Alike w))
/-- What calls come to. -/
def CallR (P : Program) (C : Orc) : Prop := ∀ f args H v H', C f args H = some (v, H') → ∀ (ρ : Ren) (w : World) (args' : List Value), VRs ρ args args' → MemR ρ H.bl.get w →
  (∀ b, H.nx ≤ b → H.bl.get b = none) → (∀ b, H.nx ≤ b → b < H'.nx → ρ b = none) →
  Calls P f args'.toArray w fun e w' => ∃ c ρ', e = .returned c ∧ VR ρ' v c ∧ HStep ρ (fun b => b < H.nx) H w H' w' ρ'
structure OrcOk (P : Program) (C : Orc) : Prop where
  fn : OrcFn P C
  le : OrcLe C
  run : CallR P C

/-- What is known ahead of an operation (of any kind). -/
structure PreX (ρ : Ren) (π : Nat → Option Nat) (H : Heap) (bx : T (List V)) (nb : Nat) (w : World) (A : Nat → Option Am.Obj) (B : Nat → Option (List V)) (res : Res) : Prop where
  pre : Pre ρ π H bx nb w A B res
  call : ∀ x, res.fx = .ha x → MemR ρ H.bl.get w

theorem HStep.congr {ρ ρ' : Ren} {τ : Nat → Prop} {H H' H2 : Heap} {w w' : World} (h : HStep ρ τ H w H' w' ρ') (hb : H2.bl = H'.bl) (hn : H2.nx = H'.nx) : HStep ρ τ H w H2 w' ρ' := by
  refine ⟨h.mono, ?_, ?_, ?_, h.size, h.keep, h.fresh, h.lt, h.out⟩
  · rw [hn]; exact h.dom
  · rw [hb]; exact h.post
  · rw [hb]; exact h.inj
theorem HStep.congrL {ρ ρ' : Ren} {τ : Nat → Prop} {H H' H2 : Heap} {w w' : World} (h : HStep ρ τ H w H' w' ρ') (hb : H2.bl = H.bl) (hn : H2.nx = H.nx) : HStep ρ τ H2 w H' w' ρ' := by
  refine ⟨h.mono, ?_, ?_, ?_, h.size, ?_, ?_, h.lt, h.out⟩
  · rw [hn]; exact h.dom
  · rw [hn]; exact h.post
  · rw [hn]; exact h.inj
  · rw [hb]; exact h.keep
  · rw [hb]; exact h.fresh

section
variable {P : Program} {x : Cx} {C : Orc} {ρ : Ren} {π : Nat → Option Nat} {a : Act} {w : World} {H : Heap} {bx : T (List V)} {nb : Nat} {A : Nat → Option Am.Obj} {B : Nat → Option (List V)} {sl : T S} {rs : List S}
theorem compileIO_inv {wr : Wr} {o : Oper} {pre : Nat} {g : Option (Option (Opd × Bool))} {io : Io} (h : compileIO x wr o pre g = some io) :
    ∃ g', g = some g' ∧ ((∃ f, compileOp x.P x.tt x.ft wr x.esc x.mt o = some (.p f) ∧ io = .pu (keep x.np x.vm o.dst) g' f pre) ∨
      (∃ f, compileOp x.P x.tt x.ft wr x.esc x.mt o = some (.m f) ∧ io = .me (keep x.np x.vm o.dst) g' f pre)) := by
  unfold compileIO at h
  cases g with
  | none => cases h
  | some g' =>
    refine ⟨g', rfl, ?_⟩
    simp only at h
    unfold mkIO at h
    split at h
    · rename_i f hf; cases h; exact .inl ⟨f, hf, rfl⟩
    · rename_i f hf; cases h; exact .inr ⟨f, hf, rfl⟩
    · cases h
/-- The guard. -/
theorem guard_ok {ops : Array Oper} {i : Nat} {o : Oper} {ws : Ws} {m : Option Nat} (hws : ∀ j, j < i → ∀ oj, ops[j]? = some oj → ws[i - 1 - j]? = some oj.dst) (hin : ∀ j, j < i → ∃ oj, ops[j]? = some oj) (hg : guardOk ws i o = true) {g' : Option (Opd × Bool)} (hg' : guardOf i o = some g')
    (hm : ∀ j want d, o.guard = some (j, want) → ws[i - 1 - j]? = some (some d) → sees m d = true)
    (hE : EnR ρ π ⟨ws, m⟩ ⟨sl, rs⟩ a) {r : Bool} (hr : wanted ⟨sl, rs⟩ g' = some r) : Go.Region.wanted o (Go.yielded ops a.tmps) = r := by
  unfold guardOf at hg'
  unfold guardOk at hg
  unfold Go.Region.wanted
  cases hgd : o.guard with
  | none =>
    rw [hgd] at hg'; cases hg'
    simp only [wanted, Option.some.injEq] at hr
    exact hr
  | some q =>
    obtain ⟨j, want⟩ := q
    rw [hgd] at hg' hg
    simp only at hg' hg
    cases hlt : Nat.blt j i with
    | false => rw [hlt] at hg'; cases hg'
    | true =>
      rw [hlt, cond_true] at hg'
      cases hg'
      have hji : j < i := by rw [Nat.blt_eq] at hlt; exact hlt
      obtain ⟨oj, hoj⟩ := hin j hji
      have hw := hws j hji oj hoj
      have hsub : Nat.sub (Nat.sub i 1) j = i - 1 - j := rfl
      rw [hsub, hw] at hg
      unfold guardD at hg
      cases hd : oj.dst with
      | none => rw [hd] at hg; cases hg
      | some d =>
        rw [hd] at hg hw
        simp only at hg
        cases hf : findW d ws 0 with
        | none => rw [hf] at hg; cases hg
        | some k =>
          rw [hf] at hg
          have hk : k = i - 1 - j := Nat.eq_of_beq_eq_true hg
          subst hk
          have hsee := hm j want d hgd hw
          simp only [wanted, hsub] at hr
          have hy : Go.yielded ops a.tmps j = (match a.tmps[d]? with | some (.bool b) => some b | _ => none) := by
            simp only [Go.yielded, hoj, Option.bind_some, hd]
            rfl
          have hev : a.eval (.tmp d) = a.tmps.getD d Go.undef := rfl
          cases he : ev ⟨sl, rs⟩ (.r (i - 1 - j)) with
          | none => rw [he] at hr; cases hr
          | some s =>
            have hs := hE d s hsee (by rw [hf]; exact he)
            rw [he] at hr
            split at hr
            · rename_i b hb
              cases hr; cases hb
              have e1 := hs.val.inv_b
              rw [hev] at e1
              have : a.tmps[d]? = some (.bool b) := by
                cases ht : a.tmps[d]? with
                | none => rw [Array.getD_eq_getD_getElem?, ht] at e1; cases e1
                | some v => rw [Array.getD_eq_getD_getElem?, ht] at e1; simp only [Option.getD_some] at e1; rw [e1]
              simp only [hy, this]
              cases want <;> cases b <;> rfl
            · rename_i hb
              cases hr; cases hb
              have e1 : a.eval (.tmp d) = Go.undef := by
                generalize a.eval (.tmp d) = q at hs
                cases hs; rfl
              rw [hev] at e1
              simp only [hy]
              cases ht : a.tmps[d]? with
              | none => rfl
              | some v =>
                rw [Array.getD_eq_getD_getElem?, ht] at e1
                simp only [Option.getD_some] at e1
                rw [e1]; rfl
            · cases hr

theorem Outcome.outR {res : Res} {c : Value} {w' : World} (h : Outcome ρ π H bx nb w res c w') : ∃ ρ' π', OutR ρ π H bx nb w res c w' ρ' π' := by
  rcases h with ⟨l, ρ', h1, h2, h3, h4, h5, h6⟩ | ⟨g, y, π', h1, h2, h3, h4, h5⟩ | ⟨h1, h2, h3, h4, h5, h6⟩
  · exact ⟨ρ', π, h5, .inl ⟨l, h1, rfl, h4, h6⟩⟩
  · exact ⟨ρ, π', h4, .inr (.inr (.inl ⟨g, y, h1, rfl, h3, h5⟩))⟩
  · exact ⟨ρ, π, h6, .inr (.inr (.inr ⟨h1, rfl, rfl, h5⟩))⟩
theorem op_wp (hx : x.P = P) (hT : TabOk P x.tt x.ft) (hC : OrcOk P C) {ops : Array Oper} {i pre : Nat} {o : Oper} {ws : Ws} {m : Option Nat} {io : Io} (ho : ops[i]? = some o) (hio : compileIO x ⟨ws, m⟩ o pre (guardOf i o) = some io)
    (hE : EnR ρ π ⟨ws, m⟩ ⟨sl, rs⟩ a) (hG : ∀ g' r, guardOf i o = some g' → wanted ⟨sl, rs⟩ g' = some r → Go.Region.wanted o (Go.yielded ops a.tmps) = r)
    {res : Res} (hres : stepIo C io sl rs bx nb H = some res) (hP : PreX ρ π H bx nb w A B res) {K : Act → World → Prop} {Q : Exit → Act → World → Prop}
    (hK : ∀ c w' ρ' π', OutR ρ π H bx nb w res c w' ρ' π' → K (a.put o.dst c) w') : Go.wpOp P ops Q i K a w := by
  subst hx
  obtain ⟨g', hg', hcase⟩ := compileIO_inv hio
  unfold Go.wpOp
  simp only [ho]
  rcases hcase with ⟨f, hf, rfl⟩ | ⟨f, hf, rfl⟩
  · simp only [stepIo, runPu] at hres
    cases hw : wanted ⟨sl, rs⟩ g' with
    | none => rw [hw] at hres; cases hres
    | some r =>
      rw [hG g' r hg' hw]
      rw [hw] at hres
      cases r with
      | true =>
        simp only at hres
        rw [if_pos rfl]
        cases hs : f ⟨sl, rs⟩ with
        | none => rw [hs] at hres; cases hres
        | some s =>
          rw [hs] at hres; cases hres
          obtain ⟨c, w', k1, k2, k3⟩ := compileP_ok hT hE hf hs w
          refine .inl ?_
          unfold Oper.wp
          rw [k1]
          exact hK c w' ρ π ⟨k3, .inr (.inr (.inr ⟨rfl, rfl, rfl, k2⟩))⟩
      | false =>
        simp only at hres
        cases hres
        rw [if_neg (by simp)]
        exact hK Go.undef w ρ π ⟨.u, .inr (.inr (.inr ⟨rfl, rfl, rfl, ⟨rfl, rfl, rfl⟩⟩))⟩
  · simp only [stepIo, runMe] at hres
    cases hw : wanted ⟨sl, rs⟩ g' with
    | none => rw [hw] at hres; cases hres
    | some r =>
      rw [hG g' r hg' hw]
      rw [hw] at hres
      cases r with
      | false =>
        simp only at hres
        cases hres
        rw [if_neg (by simp)]
        exact hK Go.undef w ρ π ⟨.u, .inr (.inr (.inr ⟨rfl, rfl, rfl, ⟨rfl, rfl, rfl⟩⟩))⟩
      | true =>
        simp only at hres
        rw [if_pos rfl]
        refine .inl ?_
        unfold Oper.wp
        rcases compileM_ok hT hC.fn hE hf hres hP.pre with ⟨c, w', hr, hout⟩ | ⟨fid, args, args', hr, hargs, hcall⟩
        · obtain ⟨ρ', π', ho'⟩ := hout.outR
          rcases hr with hr | ⟨hr, hc⟩
          · rw [hr]; exact hK c w' ρ' π' ho'
          · rw [hr]; subst hc; exact hK Go.undef w' ρ' π' ho'
        · rw [hr]
          obtain ⟨v, H', hc⟩ := callRes_some hcall
          rw [hc] at hcall
          cases hcall
          have hM := hP.call _ rfl
          have := hC.run _ _ _ _ _ hc ρ w args' hargs hM hP.pre.hn hP.pre.hf
          rw [Oper.upon_enter]
          refine Calls.mono this ?_
          rintro e w'' ⟨c, ρ', rfl, h1, h2⟩
          refine hK c w'' ρ' π ⟨.v h1, .inr (.inl ⟨_, rfl, rfl, ?_⟩)⟩
          exact (h2.congrL (H2 := H) rfl rfl).congr rfl rfl

/-! What an operation leaves of what is known. -/
def tauF (H : Heap) : Fx → Nat → Prop
  | .hs l => tl l
  | .ha _ => fun b => b < H.nx
  | _ => fun _ => False
def boxF : Fx → Nat → Prop
  | .bx g _ => fun g' => g' = g
  | _ => fun _ => False
theorem MemR.congr {A' : Nat → Option Am.Obj} {w' : World} (h : MemR ρ A w) (hA : ∀ b I, ρ b = some I → A' b = A b) (hw : w'.heap = w.heap) : MemR ρ A' w' := by
  refine ⟨fun b I cs es fl hr ha => ?_, fun b b' I I' cs es fl o hne hr hr' ha ha' hfl => ?_, fun b I hr => by rw [hw]; exact h.lt b I hr⟩
  · exact (h.get b I cs es fl hr (by rw [← hA b I hr]; exact ha)).mono (fun _ _ h => h) (by rw [hw])
  · exact h.inj b b' I I' cs es fl o hne hr hr' (by rw [← hA b I hr]; exact ha) (by rw [← hA b' I' hr']; exact ha') hfl
theorem BoxR.congr {B' : Nat → Option (List V)} {w' : World} (h : BoxR ρ π B w) (hB : ∀ g k, π g = some k → B' g = B g) (hw : w'.heap = w.heap) : BoxR ρ π B' w' := by
  refine ⟨fun g k cs hg hb => ?_, fun g k hg => by rw [hw]; exact h.lt g k hg, h.inj, h.sep⟩
  rw [hw]; exact h.get g k cs hg (by rw [← hB g k hg]; exact hb)
theorem FxOk.tau {res : Res} (hF : FxOk H bx nb res) (hn : ∀ b, H.nx ≤ b → H.bl.get b = none) (b : Nat) (h : tauF H res.fx b) : b < H.nx := by
  have hF := hF.2
  cases hfx : res.fx with
  | pu => rw [hfx] at h; exact h.elim
  | bx g y => rw [hfx] at h; exact h.elim
  | hs l =>
    rw [hfx] at hF h
    have := hF.2.2.2 b h
    rcases Nat.lt_or_ge b H.nx with k | k
    · exact k
    · exact absurd (hn b k) this
  | ha y => rw [hfx] at h; exact h
theorem FxOk.hle {res : Res} (hF : FxOk H bx nb res) : ∃ ω, HLe ω H res.hp ∧ ∀ b, b < H.nx → ω b → tauF H res.fx b := by
  have hF := hF.2
  cases hfx : res.fx with
  | pu => rw [hfx] at hF; exact ⟨fun _ => False, by rw [hF.1]; exact HLe.refl _ _, fun _ _ h => h.elim⟩
  | bx g y => rw [hfx] at hF; exact ⟨fun _ => False, by rw [hF.1]; exact HLe.refl _ _, fun _ _ h => h.elim⟩
  | hs l => rw [hfx] at hF; exact ⟨ol l, hF.2.2.1, fun b _ h => ⟨true, h⟩⟩
  | ha y => rw [hfx] at hF; exact ⟨_, hF.2.2, fun b hb _ => hb⟩
theorem FxOk.nx {res : Res} (hF : FxOk H bx nb res) : H.nx ≤ res.hp.nx := by obtain ⟨ω, h, _⟩ := hF.hle; exact h.nx
theorem OutR.mem {res : Res} {c : Value} {w' : World} {ρ' : Ren} {π' : Nat → Option Nat} (hO : OutR ρ π H bx nb w res c w' ρ' π') (hF : FxOk H bx nb res) (hM : MemR ρ A w) (hB : BoxR ρ π B w) (hn : ∀ b, H.nx ≤ b → H.bl.get b = none)
    (hA : ∀ b I, ρ b = some I → tauF H res.fx b → A b = H.bl.get b) (hf : ∀ b, H.nx ≤ b → b < res.hp.nx → ρ b = none) {A' : Nat → Option Am.Obj} {B' : Nat → Option (List V)}
    (h1 : ∀ b I, ρ b = some I → tauF H res.fx b → A' b = res.hp.bl.get b) (h2 : ∀ b, H.nx ≤ b → b < res.hp.nx → A' b = res.hp.bl.get b)
    (h3 : ∀ b I, ρ b = some I → ¬ tauF H res.fx b → ¬ (H.nx ≤ b ∧ b < res.hp.nx) → A' b = A b)
    (g1 : ∀ g, boxF res.fx g → B' g = res.bx.get g) (g2 : ∀ g k, π g = some k → ¬ boxF res.fx g → B' g = B g) : MemR ρ' A' w' ∧ BoxR ρ' π' B' w' := by
  obtain ⟨ω, hle, _⟩ := hF.hle
  have ht := fun b h => hF.tau hn b h
  rcases hO.2 with ⟨l, e1, e2, e3, e4⟩ | ⟨y, e1, e2, e3⟩ | ⟨g, y, e1, e2, e3, e4⟩ | ⟨e1, e2, e3, e4⟩
  · rw [e1] at hA h1 h3 g2 ht
    subst e2
    exact ⟨hM.step e3 hle ht hA hf h1 h2 h3, (hB.step e3).congr (fun g k hg => g2 g k hg (fun h => h)) rfl⟩
  · rw [e1] at hA h1 h3 g2 ht
    subst e2
    exact ⟨hM.step e3 hle ht hA hf h1 h2 h3, (hB.step e3).congr (fun g k hg => g2 g k hg (fun h => h)) rfl⟩
  · have hF2 := hF.2
    rw [e1] at hF2 g1 g2 h3
    subst e2
    have hhp : res.hp = H := hF2.1
    refine ⟨(hM.bstep hB e3).congr (fun b I hr => h3 b I hr (fun h => h) (by rw [hhp]; omega)) rfl, ?_⟩
    exact BoxR.bstep hM.lt hB e3 (g1 g rfl) (fun g' k hg hne => g2 g' k hg hne)
  · have hF2 := hF.2
    rw [e1] at hF2 g2 h3
    subst e2 e3
    have hhp : res.hp = H := hF2.1
    exact ⟨hM.congr (fun b I hr => h3 b I hr (fun h => h) (by rw [hhp]; omega)) e4.1, hB.congr (fun g k hg => g2 g k hg (fun h => h)) e4.1⟩

/-- What a call has done so far, against its beginning. -/
structure Cum (ρ0 : Ren) (H0 : Heap) (N : Nat) (w0 : World) (ρ : Ren) (π : Nat → Option Nat) (w : World) : Prop where
  mono : ρ0.le ρ
  dom : ∀ b I, ρ b = some I → ρ0 b = some I ∨ (H0.nx ≤ b ∧ b < N)
  size : w0.heap.size ≤ w.heap.size
  keep : ∀ k, k < w0.heap.size → (∀ b I cs es fl, b < H0.nx → ρ0 b = some I → H0.bl.get b = some (.cells cs es fl) → fl ≠ .ro → I.blk ≠ k) → w.heap[k]? = w0.heap[k]?
  fresh : ∀ b I, ρ b = some I → ρ0 b = none → w0.heap.size ≤ I.blk ∨ ∃ b0 I0 cs es fl, b0 < H0.nx ∧ ρ0 b0 = some I0 ∧ H0.bl.get b0 = some (.cells cs es fl) ∧ fl ≠ .ro ∧ I0.blk = I.blk
  box : ∀ g k, π g = some k → w0.heap.size ≤ k
  out : Outside w0 w
theorem Cum.step {ρ0 ρ' : Ren} {H0 : Heap} {N : Nat} {w0 w' : World} {π' : Nat → Option Nat} {res : Res} {c : Value} (hC : Cum ρ0 H0 N w0 ρ π w) (hO : OutR ρ π H bx nb w res c w' ρ' π') (hF : FxOk H bx nb res) (hn : ∀ b, H.nx ≤ b → H.bl.get b = none)
    (hle : HLe (fun _ => True) H0 H) (hN : res.hp.nx ≤ N) (hfree : ∀ b, H0.nx ≤ b → b < N → ρ0 b = none) : Cum ρ0 H0 N w0 ρ' π' w' := by
  have hnx := hF.nx
  -- a step on blocks
  have blocks : ∀ (τ : Nat → Prop), (∀ b, τ b → b < H.nx) → HStep ρ τ H w res.hp w' ρ' → Cum ρ0 H0 N w0 ρ' π w' := fun τ hτ hS => by
    have known : ∀ b I cs es fl, τ b → ρ b = some I → H.bl.get b = some (.cells cs es fl) → fl ≠ .ro →
        w0.heap.size ≤ I.blk ∨ ∃ b0 I0 cs es fl, b0 < H0.nx ∧ ρ0 b0 = some I0 ∧ H0.bl.get b0 = some (.cells cs es fl) ∧ fl ≠ .ro ∧ I0.blk = I.blk := by
      intro b I cs es fl ht hr hg hfl
      cases h0 : ρ0 b with
      | none => exact hC.fresh b I hr h0
      | some J =>
        have := hC.mono b J h0
        rw [hr] at this; cases this
        have hlt : b < H0.nx := by
          rcases Nat.lt_or_ge b H0.nx with k | k
          · exact k
          · have h1 := hτ b ht
            rw [hfree b k (by omega)] at h0; cases h0
        obtain ⟨cs0, hk⟩ := hle.kind b cs es fl hlt hg
        exact .inr ⟨b, I, cs0, es, fl, hlt, h0, hk, hfl, rfl⟩
    refine ⟨fun b I h => hS.mono b I (hC.mono b I h), fun b I h => ?_, Nat.le_trans hC.size hS.size, fun k hk hno => ?_, fun b I hr h0 => ?_, hC.box, ?_⟩
    · rcases hS.dom b I h with h | h
      · exact hC.dom b I h
      · exact .inr ⟨Nat.le_trans hle.nx h.1, by omega⟩
    · rw [hS.keep k (Nat.lt_of_lt_of_le hk hC.size) fun b I cs es fl ht hr hg hfl => ?_]
      · exact hC.keep k hk hno
      · rcases known b I cs es fl ht hr hg hfl with h | ⟨b0, I0, cs0, es0, fl0, q1, q2, q3, q4, q5⟩
        · omega
        · have := hno b0 I0 cs0 es0 fl0 q1 q2 q3 q4; omega
    · cases hb : ρ b with
      | some J =>
        have := hS.mono b J hb
        rw [hr] at this; cases this
        exact hC.fresh b I hb h0
      | none =>
        rcases hS.fresh b I hr hb with h | ⟨b0, I0, cs0, es0, fl0, q1, q2, q3, q4, q5⟩
        · have := hC.size; exact .inl (by omega)
        · rcases known b0 I0 cs0 es0 fl0 q1 q2 q3 q4 with h | ⟨b1, I1, cs1, es1, fl1, r1, r2, r3, r4, r5⟩
          · exact .inl (by omega)
          · exact .inr ⟨b1, I1, cs1, es1, fl1, r1, r2, r3, r4, by omega⟩
    · exact hC.out.trans hS.out
  have htau := fun b h => hF.tau hn b h
  rcases hO.2 with ⟨l, e1, e2, e3, _⟩ | ⟨y, e1, e2, e3⟩ | ⟨g, y, e1, e2, e3, _⟩ | ⟨e1, e2, e3, e4⟩
  · subst e2
    rw [e1] at htau
    exact blocks _ htau e3
  · subst e2
    exact blocks _ (fun b h => h) e3
  · subst e2
    refine ⟨hC.mono, hC.dom, Nat.le_trans hC.size e3.size, fun k hk hno => ?_, hC.fresh, fun g' k hg => ?_, ?_⟩
    · rw [e3.keep k (Nat.lt_of_lt_of_le hk hC.size) fun h => by have := hC.box _ _ h; omega]
      exact hC.keep k hk hno
    · rcases e3.dom g' k hg with h | ⟨_, _, _, h⟩
      · exact hC.box g' k h
      · have := hC.size; omega
    · exact hC.out.trans e3.out
  · subst e2 e3
    refine ⟨hC.mono, hC.dom, by rw [e4.1]; exact hC.size, fun k hk hno => by rw [e4.1]; exact hC.keep k hk hno, hC.fresh, hC.box, ?_⟩
    exact hC.out.trans (Outside.alike e4)
end
end Am
