/-
An operation: what the translation makes of it comes to what the model makes of it.
-/
import Derived.Test.YtimngjghbojjlaaGreatAmSimN
namespace Am
open Go (IntKind FloatKind BinOp UnOp Value Addr World Program Act Oper Op Operand TypeDesc TypeInfo TypeId Sem Result Next execOp Func Builtin)

section
variable {P : Program} {tt : TT} {ft : FT} {ρ : Ren} {π : Nat → Option Nat} {wr : Wr} {en : En} {a : Act} {H : Heap} {bx : T (List V)} {nb : Nat} {A : Nat → Option Am.Obj} {B : Nat → Option (List V)} {C : Orc}

/-! ## Methods -/
def MethAt (tt : TT) (name : String) (p : Nat × Nat) : Prop :=
  ∃ i u m, tt.get p.1 = some i ∧ undD tt i.desc = some u ∧ isPtr u = false ∧ i.methods.find? (·.name == name) = some m ∧ m.path = #[] ∧ m.func = some (p.2, false)
theorem methTbl_ok {name : String} : ∀ (mt : List TypeId) (p : Nat × Nat), p ∈ methTbl tt name mt → MethAt tt name p
  | [], p, h => by cases h
  | t :: ts, p, h => by
    simp only [methTbl] at h
    cases hi : tt.get t with
    | none => rw [hi] at h; exact methTbl_ok ts p h
    | some i =>
      rw [hi] at h
      simp only at h
      cases hu : undD tt i.desc with
      | none => rw [hu] at h; exact methTbl_ok ts p h
      | some u =>
        rw [hu] at h
        simp only at h
        cases hp : isPtr u with
        | true => rw [hp, cond_true] at h; exact methTbl_ok ts p h
        | false =>
          rw [hp, cond_false] at h
          unfold methOf at h
          cases hm : i.methods.toList.find? (·.name == name) with
          | none => rw [hm] at h; exact methTbl_ok ts p h
          | some m =>
            rw [hm] at h
            simp only at h
            split at h
            · rename_i hpath
              split at h
              · rename_i f hf
                rcases List.mem_cons.1 h with e | h
                · subst e
                  exact ⟨i, u, m, hi, hu, hp, by rw [← Array.find?_toList]; exact hm, by simpa using hpath, hf⟩
                · exact methTbl_ok ts p h
              · exact methTbl_ok ts p h
            · exact methTbl_ok ts p h
theorem meth_run (hT : TabOk P tt ft) {name : String} {t f : Nat} (h : MethAt tt name (t, f)) (k : Nat) (v : Value) (w : World) : (Go.method (k + 1) t v name).run P w = .ok (f, v) w := by
  obtain ⟨i, u, m, h1, h2, h3, h4, h5, h6⟩ := h
  have hi := hT.ty t i h1
  have hu : P.underlying t = some u := und_ok hT (by unfold und; simp only [h1]; exact h2)
  simp only [Go.method, Sem.run_bind, run_typeInfo hi, Go.Result.andThen_ok, h4, h5, h6, Go.follow, Sem.run_pure, Go.receiverAt, run_underlying hu]
  cases u <;> first | (simp only [isPtr] at h3; cases h3; done) | rfl

/-! ## Operations of memory -/
/-- What an operation comes to, that is no call. -/
def Upd (P : Program) (ρ : Ren) (π : Nat → Option Nat) (H : Heap) (bx : T (List V)) (nb : Nat) (a : Act) (o : Oper) (w : World) (res : Res) : Prop :=
  ∃ c w', ((execOp a.eval o).run P w = .ok (.value c) w' ∨ ((execOp a.eval o).run P w = .ok .skip w' ∧ c = Go.undef)) ∧ Outcome ρ π H bx nb w res c w'
/-- A call. -/
def Enters (P : Program) (ρ : Ren) (C : Orc) (H : Heap) (bx : T (List V)) (nb : Nat) (a : Act) (o : Oper) (w : World) (res : Res) : Prop :=
  ∃ f args args', (execOp a.eval o).run P w = .ok (.enter f args'.toArray) w ∧ VRs ρ args args' ∧ callRes bx nb H (C f args { H with lo := none }) = some res
def OrcFn (P : Program) (C : Orc) : Prop := ∀ f args H r, C f args H = some r → ∃ fn, P.funcs[f]? = some fn ∧ fn.body.isSome = true ∧ (fn.name == "runtime.NumGoroutine") = false

theorem Upd.val {s : Sem Value} {o : Oper} {w : World} {res : Res} (he : execOp a.eval o = (do let v ← s; Pure.pure (.value v))) (h : ∃ c w', s.run P w = .ok c w' ∧ Outcome ρ π H bx nb w res c w') : Upd P ρ π H bx nb a o w res := by
  obtain ⟨c, w', h1, h2⟩ := h
  exact ⟨c, w', .inl (by rw [he, Sem.run_bind, h1]; rfl), h2⟩
theorem callRes_some {r : Option (V × Heap)} {res : Res} (h : callRes bx nb H r = some res) : ∃ v H', r = some (v, H') := by
  cases r with
  | none => cases h
  | some p => exact ⟨p.1, p.2, rfl⟩
theorem run_callFunc {f : Nat} {fn : Func} {args : Array Value} (hf : P.funcs[f]? = some fn) (hb : fn.body.isSome = true) (hn : (fn.name == "runtime.NumGoroutine") = false) (w : World) : (Go.callFunc f args).run P w = .ok (.enter f args) w := by
  have : fn.body.isNone = false := by cases h : fn.body <;> simp_all
  simp only [Go.callFunc, Sem.run_bind, Go.run_program, Go.Result.andThen_ok, hf]
  rw [if_neg (by rw [hn]; simp), if_neg (by rw [this]; simp)]
  rfl
theorem mCall_ok (hC : OrcFn P C) (hE : EnR ρ π wr en a) {g : Operand} {g' : Opd} {xs : Array Operand} {ys : List Opd} (hg : opd wr g = some g') (hys : opdL wr xs.toList = some ys) {res : Res} (h : mCall g' ys C en bx nb H = some res)
    {o : Oper} {c : Go.Call} (ho : o.op = .call c) (hc : c.callee = .value g) (hxs : c.args = xs) (w : World) : Enters P ρ C H bx nb a o w res := by
  unfold mCall at h
  split at h
  · rename_i f first caps hv
    split at h
    · rename_i args hargs
      obtain ⟨v, H', hr⟩ := callRes_some h
      obtain ⟨fn, k1, k2, k3⟩ := hC _ _ _ _ hr
      obtain ⟨as', cs', e1, e2, e3⟩ := (opd_okV hE hg hv).inv_fn
      have e4 := opdL_ok hE hys hargs
      refine ⟨f, first ++ (args ++ caps), as' ++ (xs.toList.map a.eval ++ cs'), ?_, e1.append (e4.append e2), h⟩
      simp only [execOp, ho, Go.resolve, hc, e3, Go.Deferred.ofValue, Go.invoke, hxs, pure_bind]
      rw [run_callFunc k1 k2 k3]
      congr 2
      apply Array.ext'
      simp
    · cases h
  · cases h
theorem mMeth_ok (hT : TabOk P tt ft) (hC : OrcFn P C) (hE : EnR ρ π wr en a) {g : Operand} {g' : Opd} {xs : Array Operand} {ys : List Opd} {name : String} {mt : List TypeId} (hg : opd wr g = some g') (hys : opdL wr xs.toList = some ys) {res : Res} (h : mMeth g' (methTbl tt name mt) ys C en bx nb H = some res)
    {o : Oper} {c : Go.Call} (ho : o.op = .call c) (hc : c.callee = .invoke g name) (hxs : c.args = xs) (w : World) : Enters P ρ C H bx nb a o w res := by
  unfold mMeth at h
  split at h
  · rename_i t v hv
    split at h
    · rename_i args hargs
      split at h
      · rename_i t0 f hf
        obtain ⟨r, H', hr⟩ := callRes_some h
        obtain ⟨fn, k1, k2, k3⟩ := hC _ _ _ _ hr
        obtain ⟨v', e1, e3⟩ := (opd_okV hE hg hv).inv_ifc
        have e4 := opdL_ok hE hys hargs
        have hm := methTbl_ok mt _ (List.mem_of_find?_eq_some hf)
        have ht0 : t0 = t := by have := List.find?_some hf; exact Nat.eq_of_beq_eq_true this
        subst ht0
        refine ⟨f, v :: args, v' :: xs.toList.map a.eval, ?_, .cons e1 e4, h⟩
        have hsz : P.types.size + Go.Made.depth = (P.types.size + (Go.Made.depth - 1)) + 1 := by have : 0 < Go.Made.depth := by decide
                                                                                                 omega
        simp only [execOp, ho, Go.resolve, hc, Go.invoke, hxs, pure_bind, e3]
        have ha : (#[Value.iface t0 v'] ++ xs.map a.eval)[0]? = some (Value.iface t0 v') := by rw [Array.getElem?_append_left (by show 0 < 1; omega)]; rfl
        simp only [ha, Go.callMethod, Sem.run_bind, Go.run_program, Go.Result.andThen_ok, hsz, meth_run hT hm, run_callFunc k1 k2 k3]
        congr 2
        apply Array.ext'
        simp
        exact List.take_of_length_le (by simp)
      · cases h
    · cases h
  · cases h

theorem cFun_m {f : Nat} {args : List Opd} {g : MSem} (hc : cFun ft f args = some (.m g)) : g = mCall (.k (.fn f [] [])) args := by
  unfold cFun at hc
  split at hc
  · cases hc
  · split at hc
    · cases hc; rfl
    · rename_i fn _ _ _
      cases ho : fn.origin == "" with
      | true =>
        rw [ho, cond_true] at hc
        unfold cExt at hc
        split at hc
        · generalize (fn.name == "math.sqrt") = b1 at hc
          generalize (fn.name == "math.Float64bits") = b2 at hc
          generalize (fn.name == "math.Float64frombits") = b3 at hc
          cases b1 <;> cases b2 <;> cases b3 <;> cases hc
        · cases hc
      | false => rw [ho, cond_false] at hc; cases hc
theorem cApp_inv {t u : TypeId} {x y : Opd} {g : MSem} (h : cApp tt t u x y = some (.m g)) : ∃ e e' n bytes z, isSlice tt t = some e ∧ isSlice tt u = some e' ∧ tySize tt e = some n ∧ tyBytes tt e = some bytes ∧ tyZero tt e = some z ∧
    lenIs z n = true ∧ Nat.blt 0 bytes = true ∧ g = mApp x y n bytes := by
  unfold cApp at h
  cases h1 : isSlice tt t with
  | none => rw [h1] at h; cases h
  | some e =>
  cases h2 : isSlice tt u with
  | none => rw [h1, h2] at h; cases h
  | some e' =>
  cases h3 : tySize tt e with
  | none => rw [h1, h2] at h; simp only [h3] at h; cases h
  | some n =>
  cases h4 : tyBytes tt e with
  | none => rw [h1, h2] at h; simp only [h3, h4] at h; cases h
  | some bytes =>
  cases h5 : tyZero tt e with
  | none => rw [h1, h2] at h; simp only [h3, h4, h5] at h; cases h
  | some z =>
    rw [h1, h2] at h; simp only [h3, h4, h5] at h
    cases hb : (lenIs z n && (Nat.blt 0 n && Nat.blt 0 bytes)) with
    | false => rw [hb] at h; cases h
    | true =>
      rw [hb, cond_true] at h
      cases h
      rw [Bool.and_eq_true, Bool.and_eq_true] at hb
      exact ⟨e, e', n, bytes, z, rfl, rfl, h3, h4, h5, hb.1, hb.2.2, rfl⟩
theorem cCpy_inv {t : TypeId} {x y : Opd} {g : MSem} (h : cCpy tt t x y = some (.m g)) : ∃ e n, isSlice tt t = some e ∧ tySize tt e = some n ∧ g = mCpy x y n := by
  unfold cCpy at h
  cases h1 : isSlice tt t with
  | none => rw [h1] at h; cases h
  | some e =>
  cases h3 : tySize tt e with
  | none => rw [h1] at h; simp only [h3] at h; cases h
  | some n => rw [h1] at h; simp only [h3] at h; cases h; exact ⟨e, n, rfl, h3, rfl⟩
theorem callM_ok (hT : TabOk P tt ft) (hC : OrcFn P C) (hE : EnR ρ π wr en a) {mt : List TypeId} {o : Oper} {c : Go.Call} (ho : o.op = .call c) {g : MSem} {res : Res} (hc : compileCall tt ft wr mt c = some (.m g)) (h : g C en bx nb H = some res) {w : World} (hP : Pre ρ π H bx nb w A B res) :
    Upd P ρ π H bx nb a o w res ∨ Enters P ρ C H bx nb a o w res := by
  unfold compileCall at hc
  cases hys : opdL wr c.args.toList with
  | none => rw [hys] at hc; cases hc
  | some ys =>
    rw [hys] at hc
    simp only at hc
    split at hc
    · rename_i b hb
      refine .inl ?_
      unfold compileBuiltin at hc
      split at hc
      · split at hc
        · split at hc
          · split at hc <;> cases hc
          · cases hc
        · cases hc
        · cases hc
        · cases hc
      · rename_i y z
        obtain ⟨x, x', hxs, hx, hx'⟩ := opdL_two hys
        have exs : c.args.map a.eval = #[a.eval x, a.eval x'] := by rw [← toArr, hxs]; rfl
        split at hc
        · split at hc
          · rename_i t u htu
            obtain ⟨e, e', n, bytes, zz, g1, g2, g3, g4, g5, g6, g7, rfl⟩ := cApp_inv hc
            have a0 : c.argTypes[0]? = some t := by rw [← Array.getElem?_toList, htu]; rfl
            have a1 : c.argTypes[1]? = some u := by rw [← Array.getElem?_toList, htu]; rfl
            refine Upd.val (s := Go.Builtin.append_ c.argTypes o.type #[a.eval x, a.eval x']) ?_ (mApp_ok hT hE g1 g2 g3 g4 g5 g6 g7 hx hx' h a0 a1 o.type hP)
            simp only [execOp, ho, Go.resolve, hb, pure_bind, Go.invoke, Go.builtin, exs]
          · cases hc
        · split at hc
          · rename_i t ts htu
            obtain ⟨e, n, g1, g3, rfl⟩ := cCpy_inv hc
            have a0 : c.argTypes[0]? = some t := by rw [← Array.getElem?_toList, htu]; rfl
            refine Upd.val (s := Go.Builtin.copy_ c.argTypes o.type #[a.eval x, a.eval x']) ?_ (mCpy_ok hT hE g1 g3 hx hx' h a0 o.type hP)
            simp only [execOp, ho, Go.resolve, hb, pure_bind, Go.invoke, Go.builtin, exs]
          · cases hc
        · cases hc
        · cases hc
        · cases hc
        · cases hc
      · cases hc
    · rename_i r name hr
      split at hc
      · rename_i x hx
        cases hc
        exact .inr (mMeth_ok hT hC hE hx hys h ho hr rfl w)
      · cases hc
    · rename_i f hf
      have := cFun_m hc
      subst this
      exact .inr (mCall_ok hC hE (g := .func f) (g' := .k (.fn f [] [])) rfl hys h ho hf rfl w)
    · rename_i g0 _ hg
      split at hc
      · rename_i x hx
        cases hc
        exact .inr (mCall_ok hC hE hx hys h ho hg rfl w)
      · cases hc
/-- An operation of memory. -/
theorem compileM_ok (hT : TabOk P tt ft) (hC : OrcFn P C) (hE : EnR ρ π wr en a) {esc : Nat} {mt : List TypeId} {o : Oper} {g : MSem} {res : Res} (hc : compileOp P tt ft wr esc mt o = some (.m g)) (h : g C en bx nb H = some res) {w : World} (hP : Pre ρ π H bx nb w A B res) :
    Upd P ρ π H bx nb a o w res ∨ Enters P ρ C H bx nb a o w res := by
  have hp1 : ∀ {F : Opd → PSem} {x : Option Opd}, c1 F x ≠ some (.m g) := fun {F x} h => by cases x <;> cases h
  have hp2 : ∀ {F : Opd → Opd → PSem} {x y : Option Opd}, c2 F x y ≠ some (.m g) := fun {F x y} h => by cases x <;> cases y <;> cases h
  unfold compileOp at hc
  generalize hop : o.op = op at hc
  cases op <;> simp only at hc
  case alloc e =>
    refine .inl ?_
    unfold cAlloc at hc
    split at hc
    · rename_i z hz
      cases hl : isLoc esc o.dst with
      | true => rw [hl] at hc; cases hc; exact Upd.val (by simp only [execOp, hop]) (mLnew_ok hT hz h hP)
      | false => rw [hl] at hc; cases hc; exact Upd.val (by simp only [execOp, hop]) (mHnew_ok hT hz h hP)
    · cases hc
  case box e x =>
    refine .inl ?_
    unfold cBox at hc
    split at hc
    · rename_i y hy
      cases hl : isLoc esc o.dst with
      | true => rw [hl] at hc; cases hc; exact Upd.val (by simp only [execOp, hop]) (mLbox_ok hE hy h e hP)
      | false => rw [hl] at hc; cases hc; exact Upd.val (by simp only [execOp, hop]) (mHbox_ok hE hy h e hP)
    · cases hc
  case buildSlice t len ps =>
    refine .inl ?_
    unfold cBsl at hc
    cases h1 : isSlice tt t with
    | none => rw [h1] at hc; cases hc
    | some e =>
    cases h2 : tySize tt e with
    | none => rw [h1] at hc; simp only [h2] at hc; cases hc
    | some n =>
    cases h3 : tyZero tt e with
    | none => rw [h1] at hc; simp only [h2, h3] at hc; cases hc
    | some z =>
      rw [h1] at hc; simp only [h2, h3] at hc
      cases hb : (Nat.ble (Nat.mul len n) 16777216 && (lenIs z n && Nat.blt 0 n)) with
      | false => rw [hb] at hc; cases hc
      | true =>
        rw [hb, cond_true] at hc
        rw [Bool.and_eq_true, Bool.and_eq_true] at hb
        unfold bslM at hc
        split at hc
        · rename_i os ho
          cases hc
          exact Upd.val (by simp only [execOp, hop]) (mBsl_ok hT hE h1 h2 h3 hb.1 hb.2.1 ho h hP)
        · cases hc
  case load t x =>
    refine .inl ?_
    unfold cLd at hc
    split at hc
    · rename_i n ag ht
      split at hc
      · rename_i y hy
        cases hc
        exact Upd.val (by simp only [execOp, hop]) (mLd_ok hT hE ht hy h hP)
      · cases hc
    · cases hc
  case store t x v =>
    refine .inl ?_
    unfold cSt at hc
    split at hc
    · rename_i n ht
      split at hc
      · rename_i x' hx
        split at hc
        · rename_i v' hv
          cases hc
          obtain ⟨w', k1, k2⟩ := mSt_ok hT hE ht hx hv h hP
          refine ⟨Go.undef, w', .inr ⟨?_, rfl⟩, k2⟩
          simp only [execOp, hop, Sem.run_bind, k1, Go.Result.andThen_ok, Sem.run_pure]
        · cases hc
      · cases hc
    · cases hc
  case makeSlice t l c =>
    refine .inl ?_
    unfold cMsl at hc
    cases h1 : isSlice tt t with
    | none => rw [h1] at hc; cases hc
    | some e =>
    cases h2 : tySize tt e with
    | none => rw [h1] at hc; simp only [h2] at hc; cases hc
    | some n =>
    cases h4 : tyBytes tt e with
    | none => rw [h1] at hc; simp only [h2, h4] at hc; cases hc
    | some bytes =>
    cases h3 : tyZero tt e with
    | none => rw [h1] at hc; simp only [h2, h4, h3] at hc; cases hc
    | some z =>
      rw [h1] at hc; simp only [h2, h4, h3] at hc
      cases hb : (lenIs z n && Nat.blt 0 n) with
      | false => rw [hb] at hc; cases hc
      | true =>
        rw [hb, cond_true] at hc
        rw [Bool.and_eq_true] at hb
        split at hc
        · rename_i l' hl
          split at hc
          · rename_i c' hcc
            cases hc
            exact Upd.val (by simp only [execOp, hop]) (mMsl_ok hT hE h1 h2 h4 h3 hb.1 hl hcc h hP)
          · cases hc
        · cases hc
  case slice t x lo hi mx =>
    refine .inl ?_
    unfold cSlc at hc
    cases hx : opd wr x with
    | none => rw [hx] at hc; cases hc
    | some x' =>
    cases h1 : opdO wr lo with
    | none => rw [hx, h1] at hc; cases hc
    | some lo' =>
    cases h2 : opdO wr hi with
    | none => rw [hx, h1, h2] at hc; cases hc
    | some hi' =>
    cases h3 : opdO wr mx with
    | none => rw [hx, h1, h2, h3] at hc; cases hc
    | some mx' =>
      rw [hx, h1, h2, h3] at hc
      simp only at hc
      split at hc
      · rename_i e hu
        cases hn : tySize tt e with
        | none => rw [hn] at hc; cases hc
        | some n =>
          rw [hn] at hc; cases hc
          exact Upd.val (by simp only [execOp, hop]) (mSlc_ok hT hE hu hn hx h1 h2 h3 h hP)
      · split at hc <;> cases hc
      · cases hc
  case call c => exact callM_ok hT hC hE hop hc h hP
  case pick => unfold cPick at hc; split at hc; · exact absurd hc hp2
               · cases hc
  case build =>
    unfold cBuild bldP at hc
    repeat' split at hc
    all_goals cases hc
  case binOp =>
    unfold cBin compileEq eqsP at hc
    repeat' split at hc
    all_goals first
      | (cases hc; done)
      | (generalize P.eqGuardType P.depth _ = b at hc; cases b <;> first | (cases hc; done) | (rw [cond_false] at hc; split at hc <;> cases hc))
  case convert =>
    unfold cConv at hc
    repeat' split at hc
    all_goals first | exact absurd hc hp1 | cases hc
  case makeInterface =>
    unfold cIfc at hc
    repeat' split at hc
    all_goals first | exact absurd hc hp1 | cases hc
  case makeFunc =>
    unfold cMkf at hc
    repeat' split at hc
    all_goals cases hc
  case fieldAddr =>
    unfold cFld at hc
    repeat' split at hc
    all_goals first | exact absurd hc hp1 | cases hc
  case field =>
    unfold cPart at hc
    repeat' split at hc
    all_goals first | exact absurd hc hp1 | cases hc
  case indexAddr =>
    unfold cIxa at hc
    repeat' split at hc
    all_goals first | exact absurd hc hp2 | cases hc
  case index =>
    unfold cIx at hc
    repeat' split at hc
    all_goals first | exact absurd hc hp1 | exact absurd hc hp2 | cases hc
  all_goals first | exact absurd hc hp1 | cases hc
end
end Am
