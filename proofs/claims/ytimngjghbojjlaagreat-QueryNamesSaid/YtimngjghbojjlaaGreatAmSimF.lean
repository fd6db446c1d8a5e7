/-
Functions: calls of the abstract machine are calls of the model's.
-/
import Derived.Test.YtimngjghbojjlaaGreatAmSimC
namespace Am
open Go (IntKind FloatKind BinOp UnOp Value Addr World Program Act Oper Op Operand TypeDesc TypeInfo TypeId Sem Result Next execOp Func Builtin Exit Ending Calls Code ResultVar)

section
variable {P : Program} {x : Cx} {ρ : Ren} {π : Nat → Option Nat}
theorem start_get (args : List V) (H : Heap) (t : Nat) : (start args H).sl.get t = (args.map S.v)[t]? := T.get_ofList _ _
theorem start_reg {args : List V} {H : Heap} {t : Nat} {s : S} (h : (start args H).sl.get t = some s) : ∃ v, args[t]? = some v ∧ s = .v v := by
  rw [start_get, List.getElem?_map, Option.map_eq_some_iff] at h
  obtain ⟨v, h1, h2⟩ := h
  exact ⟨v, h1, h2.symm⟩
/-! ## Results -/
theorem res_ok (hT : TabOk P x.tt x.ft) {N : Nat} {st : St} {a : Act} {w : World} (hR : FrR x N ρ π st.sl st.bx st.nb st.hp a w) {r : ResultVar} {rs : Rs} (hr : compileR x.tt r = some rs) {v : V} (hv : resOf st rs = some v) :
    ∃ c, ((match r with | .tmp t => Pure.pure (a.tmps.getD t Go.undef) | .cell p t => (do Go.loadVar t (← Go.asAddr (a.tmps.getD p Go.undef))) : Sem Value)).run P w = .ok c w ∧ VR ρ v c := by
  cases r with
  | tmp t =>
    simp only [compileR, Option.some.injEq] at hr; subst hr
    simp only [resOf] at hv
    split at hv
    · rename_i u hu
      cases hv
      exact ⟨_, rfl, (hR.regs t _ hu).val⟩
    · cases hv
  | cell p t =>
    simp only [compileR] at hr
    unfold cellOf at hr
    split at hr
    · rename_i n ag ht
      cases hr
      simp only [resOf] at hv
      split at hv
      · rename_i g o hg
        obtain ⟨k, hk, e⟩ := (hR.regs p _ hg).inv_lp
        have e : a.tmps.getD p Go.undef = .pointer (some ⟨k, o, none⟩) := e
        split at hv
        · rename_i cs hb
          obtain ⟨cc, el, k1, k2⟩ := hR.box.get g k cs hk hb
          obtain ⟨c, r1, r2⟩ := load_ok (ρ := ρ) (o := o) (base := 0) hT ht k1 (fun i v hi => by
            obtain ⟨c, e1, e2⟩ := k2.get i v hi
            exact ⟨c, by simpa using e1, e2⟩) hv
          rw [Nat.zero_add] at r1
          refine ⟨c, ?_, r2⟩
          simp only [e, Go.asAddr, Sem.run_bind, Sem.run_pure, Go.Result.andThen_ok, r1]
        · cases hv
      · rename_i b o hg
        obtain ⟨I, hI, e⟩ := (hR.regs p _ hg).val.inv_p
        have e : a.tmps.getD p Go.undef = .pointer (some ⟨I.blk, I.base + o, none⟩) := e
        split at hv
        · rename_i cs es fl hb
          obtain ⟨cc, el, fz, k1, _, _, k4, _⟩ := hR.mem.get b I cs es fl hI hb
          obtain ⟨c, r1, r2⟩ := load_ok (ρ := ρ) (o := o) hT ht k1 k4 hv
          refine ⟨c, ?_, r2⟩
          simp only [e, Go.asAddr, Sem.run_bind, Sem.run_pure, Go.Result.andThen_ok, r1]
        · cases hv
      · cases hv
    · cases hr
theorem resL_ok (hT : TabOk P x.tt x.ft) {N : Nat} {st : St} {a : Act} {w : World} (hR : FrR x N ρ π st.sl st.bx st.nb st.hp a w) : ∀ (l : List ResultVar) (rs : List Rs) (vs : List V), compileRes x.tt l = some rs → resL st rs = some vs →
    ∃ cs, (l.mapM fun r => (match r with | .tmp t => Pure.pure (a.tmps.getD t Go.undef) | .cell p t => (do Go.loadVar t (← Go.asAddr (a.tmps.getD p Go.undef))) : Sem Value)).run P w = .ok cs w ∧ VRs ρ vs cs
  | [], rs, vs, h, hv => by
    simp only [compileRes, Option.some.injEq] at h; subst h
    simp only [resL, Option.some.injEq] at hv; subst hv
    exact ⟨[], rfl, .nil⟩
  | r :: l, rs, vs, h, hv => by
    simp only [compileRes] at h
    cases hr : compileR x.tt r with
    | none => rw [hr] at h; cases h
    | some r' =>
      rw [hr] at h
      simp only [consO_map, Option.map_eq_some_iff] at h
      obtain ⟨rs', h1, rfl⟩ := h
      simp only [resL] at hv
      cases hv1 : resOf st r' with
      | none => rw [hv1] at hv; cases hv
      | some v =>
        rw [hv1] at hv
        simp only at hv
        cases hv2 : resL st rs' with
        | none => rw [hv2] at hv; cases hv
        | some vs' =>
          rw [hv2] at hv; cases hv
          obtain ⟨c, k1, k2⟩ := res_ok hT hR hr hv1
          obtain ⟨cs, q1, q2⟩ := resL_ok hT hR l rs' vs' h1 hv2
          refine ⟨c :: cs, ?_, .cons k2 q2⟩
          rw [List.mapM_cons]
          simp only [Sem.run_bind, k1, q1, Go.Result.andThen_ok, Sem.run_pure]
theorem results_ok (hT : TabOk P x.tt x.ft) {N : Nat} {st : St} {a : Act} {w : World} (hR : FrR x N ρ π st.sl st.bx st.nb st.hp a w) {fn : Func} {rs : List Rs} (h : compileRes x.tt fn.results.toList = some rs) {v : V} (hv : resV st rs = some v) :
    ∃ c, (Go.results fn a.tmps).run P w = .ok c w ∧ VR ρ v c := by
  unfold resV at hv
  cases hl : resL st rs with
  | none => rw [hl] at hv; cases hv
  | some vs =>
    rw [hl] at hv
    obtain ⟨cs, k1, k2⟩ := resL_ok hT hR _ _ _ h hl
    have hm : (fn.results.mapM fun r => (match r with | .tmp t => Pure.pure (a.tmps.getD t Go.undef) | .cell p t => (do Go.loadVar t (← Go.asAddr (a.tmps.getD p Go.undef))) : Sem Value)).run P w = .ok cs.toArray w := by
      rw [Array.mapM_eq_mapM_toList, Sem.run_map, k1]; rfl
    have hres : ∀ c, (if h : cs.toArray.size = 1 then cs.toArray[0] else .tuple cs.toArray) = c → (Go.results fn a.tmps).run P w = .ok c w := by
      intro c hc
      unfold Go.results
      rw [Sem.run_bind]
      refine (congrArg (fun r => Result.andThen r _) (show _ = Result.ok cs.toArray w from hm)).trans ?_
      rw [Go.Result.andThen_ok, Sem.run_pure, hc]
    cases k2 with
    | nil =>
      cases hv
      exact ⟨_, hres _ rfl, .tup .nil⟩
    | cons h1 h2 =>
      cases h2 with
      | nil => cases hv; exact ⟨_, hres _ rfl, h1⟩
      | cons h2 h3 =>
        cases hv
        exact ⟨_, hres _ rfl, .tup (.cons h1 (.cons h2 h3))⟩
end

/-! ## Tables -/
theorem tabs_ok (P : Program) : TabOk P (typeT P) (funcT P) := by
  constructor
  · intro t i h
    unfold typeT at h
    rw [T.get_ofList] at h
    have h' : P.types[t]? = some i := by simpa using h
    have hlt : t < P.types.size := (Array.getElem?_eq_some_iff.1 h').1
    show (if t < P.types.size then P.types[t]? else _) = some i
    rw [if_pos hlt, h']
  · intro f y h
    unfold funcT at h
    rw [T.get_ofList] at h
    simpa using h
theorem compileFn_inv {P : Program} {tt : TT} {ft : FT} {mt : List TypeId} {esc vm : Nat} {f : Func} {fn : Fn} (h : compileFn P tt ft mt esc vm f = some fn) :
    ∃ b cd rs, f.body = some b ∧ (f.name == "runtime.NumGoroutine") = false ∧ f.params.size + f.nfree ≤ f.ntmps ∧ compileCode ⟨P, tt, ft, mt, esc, f.ntmps, f.params.size + f.nfree, vm⟩ b = some cd ∧ compileRes tt f.results.toList = some rs ∧ fn = ⟨f.params.size + f.nfree, cd, rs⟩ := by
  unfold compileFn at h
  cases hb : f.body with
  | none => rw [hb] at h; cases h
  | some b =>
    rw [hb] at h
    simp only at h
    cases hq : (f.name == "runtime.NumGoroutine" || Nat.blt f.ntmps (f.params.size + f.nfree)) with
    | true => rw [hq] at h; cases h
    | false =>
      rw [hq, cond_false] at h
      rw [Bool.or_eq_false_iff] at hq
      unfold mkFn at h
      split at h
      · rename_i cd hcd
        split at h
        · rename_i rs hrs
          cases h
          refine ⟨b, cd, rs, rfl, hq.1, ?_, hcd, hrs, rfl⟩
          have := hq.2
          rcases Nat.lt_or_ge f.ntmps (f.params.size + f.nfree) with k | k
          · rw [blt_t k] at this; cases this
          · exact k
        · cases h
      · cases h
theorem env_inv {P : Program} {mt : List TypeId} {mk : Masks} {f : Nat} {fn : Fn} (h : env P mt mk f = some fn) : ∃ g esc vm, P.funcs[f]? = some g ∧ compileFn P (typeT P) (funcT P) mt esc vm g = some fn := by
  unfold env at h
  split at h
  · cases h
  · rename_i g hg
    split at h
    · rename_i esc vm hm
      exact ⟨g, esc, vm, (tabs_ok P).fn f g hg, h⟩
    · cases h
theorem finish_inv {nx : Nat} {rs : List Rs} {r : Option (Ex × St)} {v : V} {H' : Heap} (h : finish nx rs r = some (v, H')) : ∃ ex st, r = some (ex, st) ∧ (ex = .normal ∨ ex = .ret) ∧ resV st rs = some v ∧ H' = { st.hp with lo := loOut nx st.hp.lo } := by
  cases r with
  | none => cases h
  | some p =>
    obtain ⟨ex, st⟩ := p
    have key : endV nx st (resV st rs) = some (v, H') → resV st rs = some v ∧ H' = { st.hp with lo := loOut nx st.hp.lo } := fun h => by
      cases hr : resV st rs with
      | none => rw [hr] at h; cases h
      | some u => rw [hr] at h; cases h; exact ⟨rfl, rfl⟩
    cases ex with
    | normal => exact ⟨_, st, rfl, .inl rfl, key h⟩
    | ret => exact ⟨_, st, rfl, .inr rfl, key h⟩
    | exit i => cases h
theorem callB_inv {C : Orc} {n : Nat} {args : List V} {H : Heap} {o : Option Fn} {v : V} {H' : Heap} (h : callB C n args H o = some (v, H')) : ∃ fn ex st, o = some fn ∧ args.length = fn.np ∧ exec C n fn.body (start args H) = some (ex, st) ∧ (ex = .normal ∨ ex = .ret) ∧
    resV st fn.res = some v ∧ H' = { st.hp with lo := loOut H.nx st.hp.lo } := by
  cases o with
  | none => cases h
  | some fn =>
    simp only [callB] at h
    split at h
    · rename_i hl
      rw [lenIs_eq] at hl
      obtain ⟨ex, st, h1, h2, h3, h4⟩ := finish_inv h
      exact ⟨fn, ex, st, rfl, by simpa using hl, h1, h2, h3, h4⟩
    · cases h
theorem start_fine (args : List V) {H : Heap} (hn : ∀ b, H.nx ≤ b → H.bl.get b = none) : StFine (start args H) := ⟨fun g _ => T.get_e g, hn⟩

/-! ## Calls -/
theorem Cum.hstep {ρ0 ρ : Ren} {H0 H' : Heap} {w0 w : World} {π : Nat → Option Nat} (hC : Cum ρ0 H0 H'.nx w0 ρ π w) (hM : MemR ρ H'.bl.get w) : HStep ρ0 (fun b => b < H0.nx) H0 w0 H' w ρ :=
  ⟨hC.mono, hC.dom, fun b I cs es fl _ hr hg => hM.get b I cs es fl hr hg, fun b b' I I' cs es fl o _ _ hne hr hr' hg hg' hfl => hM.inj b b' I I' cs es fl o hne hr hr' hg hg' hfl, hC.size,
    fun k hk hno => hC.keep k hk fun b I cs es fl hb hr hg hfl => hno b I cs es fl hb hr hg hfl, hC.fresh, fun b I hr _ => hM.lt b I hr, hC.out⟩
theorem orc_ok {P : Program} (hm : P.follows .mixedOrders = true) (mt : List TypeId) (mk : Masks) : ∀ n, OrcOk P (callN (env P mt mk) n) := by
  intro n
  induction n with
  | zero => exact ⟨fun f args H r h => (by rw [callN_zero] at h; cases h), fun f args H v H' _ h => (by rw [callN_zero] at h; cases h), fun f args H v H' h => (by rw [callN_zero] at h; cases h)⟩
  | succ n ih =>
    refine ⟨?_, ?_, ?_⟩
    · intro f args H r h
      obtain ⟨v, H'⟩ := r
      rw [callN_succ] at h
      obtain ⟨fn, ex, st, h1, _⟩ := callB_inv h
      obtain ⟨g, esc, vm, k1, k2⟩ := env_inv h1
      obtain ⟨b, cd, rs, q1, q2, _⟩ := compileFn_inv k2
      exact ⟨g, k1, by rw [q1]; rfl, q2⟩
    · intro f args H v H' hn h
      rw [callN_succ] at h
      obtain ⟨fn, ex, st, h1, _, h3, _, _, h6⟩ := callB_inv h
      obtain ⟨g, esc, vm, k1, k2⟩ := env_inv h1
      obtain ⟨b, cd, rs, q1, q2, q3, q4, q5, rfl⟩ := compileFn_inv k2
      have hle := exec_le ih.le n cd (compileCode_ok _ _ q4) _ ex st (start_fine args hn) h3
      subst h6
      refine ⟨⟨hle.hle.nx, hle.hle.none_, hle.hle.kind, hle.hle.same⟩, fun b hb hne => ?_⟩
      obtain ⟨l', e1, e2⟩ := hle.lo.tells b hb hne
      refine ⟨l', ?_, e2⟩
      show loOut H.nx st.hp.lo = some l'
      rw [e1]
      simp only [loOut]
      rw [blt_t (by omega), cond_true]
    · intro f args H v H' h ρ w args' hargs hM hn hf
      rw [callN_succ] at h
      obtain ⟨fn, ex, st, h1, h2, h3, h4, h5, h6⟩ := callB_inv h
      obtain ⟨g, esc, vm, k1, k2⟩ := env_inv h1
      obtain ⟨b, cd, rs, q1, q2, q3, q4, q5, rfl⟩ := compileFn_inv k2
      have hN : st.hp.nx ≤ H'.nx := by rw [h6]; exact Nat.le_refl _
      refine Go.calls_of_wp k1 q1 ?_
      have hlen := hargs.length
      have hx : (⟨P, typeT P, funcT P, mt, esc, g.ntmps, g.params.size + g.nfree, vm⟩ : Cx).P = P := rfl
      have hst : StR ⟨P, typeT P, funcT P, mt, esc, g.ntmps, g.params.size + g.nfree, vm⟩ ρ H H'.nx w ρ (fun _ => none) (start args H).sl (start args H).bx (start args H).nb (start args H).hp
          { tmps := args'.toArray ++ Array.replicate (g.ntmps - args'.toArray.size) Go.undef, defers := [] } w := by
        have hsz : args'.toArray.size = args'.length := by simp
        refine ⟨⟨fun t s ht => ?_, fun t s ht => ?_, ?_, rfl, hM, ?_, hn, fun g _ => T.get_e g, hf, fun _ _ => rfl⟩, ⟨fun _ _ h => h, fun _ _ h => .inl h, Nat.le_refl _, fun _ _ _ => rfl, fun b I hr h0 => (by rw [h0] at hr; cases hr), fun g k hg => (by cases hg), Outside.refl _⟩, ⟨Nat.le_refl _, fun h => h, fun _ cs _ _ _ h => ⟨cs, h⟩, fun _ _ _ => rfl⟩⟩
        · obtain ⟨u, hu, rfl⟩ := start_reg ht
          obtain ⟨c, hc, hv⟩ := hargs.get t u hu
          have : (⟨args'.toArray ++ Array.replicate (g.ntmps - args'.toArray.size) Go.undef, []⟩ : Act).eval (.tmp t) = c := by
            have hlt : t < args'.length := (List.getElem?_eq_some_iff.1 hc).1
            simp only [Act.eval, Array.getD_eq_getD_getElem?]
            rw [Array.getElem?_append_left (by simpa using hlt)]
            simp [hc]
          rw [this]; exact .v hv
        · obtain ⟨u, hu, rfl⟩ := start_reg ht
          have hlt : t < args.length := (List.getElem?_eq_some_iff.1 hu).1
          have : t < g.params.size + g.nfree := by have := h2; simp only at this; omega
          simp only [isVar, blt_t this, cond_true]
        · have := h2
          simp only at this
          simp
          omega
        · exact ⟨fun g k cs hg => (by cases hg), fun g k hg => (by cases hg), fun g g' k hg => (by cases hg), fun g k b I hg => (by cases hg)⟩
      refine code_wp hx (tabs_ok P) ih hm hf n b cd q4 _ st ex h3 hN _ w ρ _ hst _ fun a' w' ρ' π' hR => ?_
      obtain ⟨c, r1, r2⟩ := results_ok (tabs_ok P) hR.fr q5 h5
      have fin : a'.defers = [] ∧ ∃ u, (Go.results g a'.tmps).run P w' = .ok u w' ∧ ∃ c ρ'', Ending.returned u = .returned c ∧ VR ρ'' v c ∧ HStep ρ (fun b => b < H.nx) H w H' w' ρ'' := by
        refine ⟨hR.fr.defers, c, r1, c, ρ', rfl, r2, ?_⟩
        have hM' : MemR ρ' H'.bl.get w' := by rw [h6]; exact hR.fr.mem
        exact hR.cum.hstep hM'
      rcases h4 with rfl | rfl
      · exact fin
      · exact fin
end Am
