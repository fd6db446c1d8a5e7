/-
The operations of memory, one by one.
-/
import Derived.Test.YtimngjghbojjlaaGreatAmSimM
namespace Am
open Go (IntKind FloatKind BinOp UnOp Value Addr World Program Act Oper Op Operand TypeDesc TypeInfo TypeId Sem Result Next execOp Func Builtin)

def tl (l : List (Nat × Bool)) (b : Nat) : Prop := ∃ x, (b, x) ∈ l
def ol (l : List (Nat × Bool)) (b : Nat) : Prop := (b, true) ∈ l

section
variable {P : Program} {tt : TT} {ft : FT} {ρ : Ren} {π : Nat → Option Nat} {wr : Wr} {en : En} {a : Act} {H : Heap} {bx : T (List V)} {nb : Nat} {A : Nat → Option Am.Obj} {B : Nat → Option (List V)}
/-- What an operation on blocks came to. -/
def HeapOut (ρ : Ren) (π : Nat → Option Nat) (H : Heap) (bx : T (List V)) (nb : Nat) (w : World) (res : Res) (c : Value) (w' : World) : Prop :=
  ∃ l ρ', res.fx = .hs l ∧ res.bx = bx ∧ res.nb = nb ∧ HStep ρ (tl l) H w res.hp w' ρ' ∧ SR ρ' π res.s c ∧ ∀ b, tl l b → ρ b ≠ none
def BoxOut (ρ : Ren) (π : Nat → Option Nat) (H : Heap) (bx : T (List V)) (nb : Nat) (w : World) (res : Res) (c : Value) (w' : World) : Prop :=
  ∃ g x π', res.fx = .bx g x ∧ res.hp = H ∧ BStep ρ π g bx nb w res.bx res.nb w' π' ∧ SR ρ π' res.s c ∧ (g < nb → π g ≠ none)
def PuOut (ρ : Ren) (π : Nat → Option Nat) (H : Heap) (bx : T (List V)) (nb : Nat) (w : World) (res : Res) (c : Value) (w' : World) : Prop :=
  res.fx = .pu ∧ res.hp = H ∧ res.bx = bx ∧ res.nb = nb ∧ w'.Alike w ∧ SR ρ π res.s c
def Outcome (ρ : Ren) (π : Nat → Option Nat) (H : Heap) (bx : T (List V)) (nb : Nat) (w : World) (res : Res) (c : Value) (w' : World) : Prop :=
  HeapOut ρ π H bx nb w res c w' ∨ BoxOut ρ π H bx nb w res c w' ∨ PuOut ρ π H bx nb w res c w'
/-- What is known ahead of it. -/
structure Pre (ρ : Ren) (π : Nat → Option Nat) (H : Heap) (bx : T (List V)) (nb : Nat) (w : World) (A : Nat → Option Am.Obj) (B : Nat → Option (List V)) (res : Res) : Prop where
  mem : MemR ρ A w
  box : BoxR ρ π B w
  hA : ∀ l, res.fx = .hs l → ∀ b I, ρ b = some I → tl l b → A b = H.bl.get b
  hB : ∀ g x, res.fx = .bx g x → g < nb → ∀ k, π g = some k → B g = bx.get g
  hn : ∀ b, H.nx ≤ b → H.bl.get b = none
  hf : ∀ b, H.nx ≤ b → b < res.hp.nx → ρ b = none
  hp : ∀ g, nb ≤ g → g < res.nb → π g = none
  bn : ∀ g, nb ≤ g → bx.get g = none

theorem SR.newbox {g k : Nat} : SR ρ (fun x => if x = g then some k else π x) (.lp g 0) (.pointer (some ⟨k, 0, none⟩)) := .lp (if_pos rfl)
/-- A new box. -/
theorem box_new {cs : List V} {cc : Array Value} {el : TypeId} (hcs : VRs ρ cs cc.toList) {w : World} {r : Res} (hr : r = ⟨.lp nb 0, bx.set nb cs, nb + 1, H, .bx nb true⟩) (hP : Pre ρ π H bx nb w A B r) :
    Outcome ρ π H bx nb w r (.pointer (some ⟨w.heap.size, 0, none⟩)) (w.alloc (.cells cc el)) := by
  subst hr
  have hpn : π nb = none := hP.hp nb (Nat.le_refl _) (Nat.lt_succ_self _)
  refine .inr (.inl ⟨nb, true, fun x => if x = nb then some w.heap.size else π x, rfl, rfl, ?_, SR.newbox, fun h => absurd h (Nat.lt_irrefl _)⟩)
  refine ⟨?_, ?_, Nat.le_succ _, ?_, by rw [World.size_alloc]; omega, ?_, ?_, ?_, Outside.alloc _ _ _⟩
  · intro g k h
    by_cases e : g = nb
    · subst e; rw [hpn] at h; cases h
    · simp only [if_neg e]; exact h
  · intro g k h
    by_cases e : g = nb
    · subst e; simp only [if_true, Option.some.injEq] at h
      exact .inr ⟨rfl, Nat.le_refl _, Nat.lt_succ_self _, h.symm⟩
    · simp only [if_neg e] at h; exact .inl h
  · intro k ds h hg
    simp only [if_true, Option.some.injEq] at h
    rw [T.get_set, if_pos rfl, Option.some.injEq] at hg
    subst h hg
    exact ⟨cc, el, heap_alloc_new, hcs⟩
  · intro g k h hn
    by_cases e : g = nb
    · subst e; simp only [if_true, Option.some.injEq] at h
      rw [World.size_alloc]; omega
    · simp only [if_neg e] at h; rw [hn] at h; cases h
  · intro k hk _; exact heap_alloc_old hk
  · intro g hg; rw [T.get_set, if_neg hg]
theorem mLbox_ok (hE : EnR ρ π wr en a) {x : Operand} {y : Opd} (hx : opd wr x = some y) {C : Orc} {res : Res} (h : mLbox y C en bx nb H = some res) (t : TypeId) {w : World} (hP : Pre ρ π H bx nb w A B res) :
    ∃ c w', (Go.Instr.box t (a.eval x)).run P w = .ok c w' ∧ Outcome ρ π H bx nb w res c w' := by
  unfold mLbox at h
  obtain ⟨v, hv, h⟩ := evV_match h
  cases h
  refine ⟨_, _, ?_, box_new (cc := (a.eval x).cells) (el := t) (opd_okV hE hx hv).cells rfl hP⟩
  simp only [Go.Instr.box, Go.newVar, Go.newRow, Sem.run_bind, Go.run_newObj, Go.Result.andThen_ok, Sem.run_pure]
  rfl
theorem mLnew_ok (hT : TabOk P tt ft) {t : TypeId} {z : List V} (hz : tyZero tt t = some z) {C : Orc} {res : Res} (h : mLnew z C en bx nb H = some res) {w : World} (hP : Pre ρ π H bx nb w A B res) :
    ∃ c w', (Go.Instr.alloc t true (.tuple #[])).run P w = .ok c w' ∧ Outcome ρ π H bx nb w res c w' := by
  unfold mLnew at h
  cases h
  obtain ⟨i, v, hi, hv, hzr⟩ := tyZero_ok (ρ := ρ) hT hz
  refine ⟨_, _, ?_, box_new (cc := v.cells) (el := t) hzr rfl hP⟩
  simp only [Go.Instr.alloc, Go.newVar, Go.newRow, Sem.run_bind, run_zero hi hv, Go.run_newObj, Go.Result.andThen_ok, Sem.run_pure]
  rfl
/-- A new block. -/
theorem blk_new {cs : List V} {cc : Array Value} {el : TypeId} (hcs : VRs ρ cs cc.toList) {w w1 : World} (hw : w1.Alike w) {r : Res} {v : V} {l : List (Nat × Bool)} (hr : fresh bx nb H cs v l = some r) (hP : Pre ρ π H bx nb w A B r) (hl : ∀ b, tl l b → ρ b ≠ none)
    {c : Value} (hv : VR (ρ.set H.nx ⟨w.heap.size, 0, none⟩) v c) :
    Outcome ρ π H bx nb w r c (w1.alloc (.cells cc el)) := by
  unfold fresh at hr
  cases hr
  have hf : ρ H.nx = none := hP.hf H.nx (Nat.le_refl _) (Nat.lt_succ_self _)
  refine .inl ⟨l, ρ.set H.nx ⟨w.heap.size, 0, none⟩, rfl, rfl, rfl, ?_, .v hv, hl⟩
  refine HStep.new hP.mem (hP.hA l rfl) hP.hn hf (fun i v hi => ?_) (by rw [hcs.length, Array.length_toList]; exact Nat.le_refl _) rfl hw
  obtain ⟨c, h1, h2⟩ := hcs.get i v hi
  exact ⟨c, by simpa using h1, h2⟩
theorem VR.newp {w : World} {H : Heap} : VR (ρ.set H.nx ⟨w.heap.size, 0, none⟩) (.p (some (H.nx, 0))) (.pointer (some ⟨w.heap.size, 0, none⟩)) := by
  have := VR.p (ρ := ρ.set H.nx ⟨w.heap.size, 0, none⟩) (b := H.nx) (o := 0) (Ren.set_same ρ H.nx _)
  exact this
theorem VR.news {w : World} {H : Heap} (l c : Nat) : VR (ρ.set H.nx ⟨w.heap.size, 0, none⟩) (.s (some (H.nx, 0)) l c) (.slice (some ⟨w.heap.size, 0, none⟩) l c) := by
  have := VR.s (ρ := ρ.set H.nx ⟨w.heap.size, 0, none⟩) (b := H.nx) (o := 0) (l := l) (c := c) (c' := c) (Ren.set_same ρ H.nx _) rfl
  exact this
theorem tl_nil {b : Nat} (h : tl [] b) : False := by obtain ⟨x, h⟩ := h; cases h
theorem mHbox_ok (hE : EnR ρ π wr en a) {x : Operand} {y : Opd} (hx : opd wr x = some y) {C : Orc} {res : Res} (h : mHbox y C en bx nb H = some res) (t : TypeId) {w : World} (hP : Pre ρ π H bx nb w A B res) :
    ∃ c w', (Go.Instr.box t (a.eval x)).run P w = .ok c w' ∧ Outcome ρ π H bx nb w res c w' := by
  unfold mHbox at h
  obtain ⟨v, hv, h⟩ := evV_match h
  refine ⟨_, _, ?_, blk_new (cc := (a.eval x).cells) (el := t) (opd_okV hE hx hv).cells ⟨rfl, rfl, rfl⟩ h hP (fun b hb => (tl_nil hb).elim) VR.newp⟩
  simp only [Go.Instr.box, Go.newVar, Go.newRow, Sem.run_bind, Go.run_newObj, Go.Result.andThen_ok, Sem.run_pure]
  rfl
theorem mHnew_ok (hT : TabOk P tt ft) {t : TypeId} {z : List V} (hz : tyZero tt t = some z) {C : Orc} {res : Res} (h : mHnew z C en bx nb H = some res) {w : World} (hP : Pre ρ π H bx nb w A B res) :
    ∃ c w', (Go.Instr.alloc t true (.tuple #[])).run P w = .ok c w' ∧ Outcome ρ π H bx nb w res c w' := by
  unfold mHnew at h
  obtain ⟨i, v, hi, hv, hzr⟩ := tyZero_ok (ρ := ρ) hT hz
  refine ⟨_, _, ?_, blk_new (cc := v.cells) (el := t) hzr ⟨rfl, rfl, rfl⟩ h hP (fun b hb => (tl_nil hb).elim) VR.newp⟩
  simp only [Go.Instr.alloc, Go.newVar, Go.newRow, Sem.run_bind, run_zero hi hv, Go.run_newObj, Go.Result.andThen_ok, Sem.run_pure]
  rfl

/-! Loads and stores. -/
theorem cell_heap {w : World} {k : Nat} {cc : Array Value} {el : TypeId} {fz : Nat × Nat} (h : w.heap[k]? = some (.cells cc el fz)) (i : Nat) : w.cell? ⟨k, i, none⟩ = cc[i]? := by
  simp [World.cell?, h]
theorem load_ok (hT : TabOk P tt ft) {t : TypeId} {n o : Nat} {ag : Bool} (ht : tyVar tt t = some (n, ag)) {w : World} {k base : Nat} {cs : List V} {cc : Array Value} {el : TypeId} {fz : Nat × Nat}
    (hk : w.heap[k]? = some (.cells cc el fz)) (hcs : ∀ (i : Nat) (v : V), cs[i]? = some v → ∃ c, cc[base + i]? = some c ∧ VR ρ v c) {v : V} (hv : cutV cs o n ag = some v) :
    ∃ c, (Go.loadVar t ⟨k, base + o, none⟩).run P w = .ok c w ∧ VR ρ v c := by
  obtain ⟨i, d, hi, hn, hu, hg, _⟩ := tyVar_ok hT ht
  cases ag with
  | true =>
    simp only [cutV] at hv
    cases hc : cut cs o n with
    | none => rw [hc] at hv; cases hv
    | some l =>
      rw [hc] at hv; cases hv
      obtain ⟨hle, rfl⟩ := cut_some hc
      have hlen : ((cs.drop o).take n).length = n := by simp; omega
      have get : ∀ j, j < n → ∃ c, cc[base + o + j]? = some c ∧ ∃ v, ((cs.drop o).take n)[j]? = some v ∧ VR ρ v c := fun j hj => by
        have hj' : o + j < cs.length := by omega
        obtain ⟨c, k1, k2⟩ := hcs (o + j) cs[o + j] (List.getElem?_eq_getElem hj')
        exact ⟨c, by rw [Nat.add_assoc]; exact k1, cs[o + j], by rw [List.getElem?_take_of_lt hj, List.getElem?_drop, List.getElem?_eq_getElem hj'], k2⟩
      have hsz : n = 0 ∨ base + o + n ≤ cc.size := by
        rcases Nat.eq_zero_or_pos n with h | h
        · exact .inl h
        · obtain ⟨c, k1, _⟩ := get (n - 1) (by omega)
          have := (Array.getElem?_eq_some_iff.1 k1).1
          exact .inr (by omega)
      have hul : ((cc.toList.drop (base + o)).take n).length = n := by simp; omega
      have hu2 : VRs ρ ((cs.drop o).take n) ((cc.toList.drop (base + o)).take n) := by
        refine VRs.of_get (by rw [hlen, hul]) fun j u hj => ?_
        have hjn : j < n := by have := (List.getElem?_eq_some_iff.1 hj).1; omega
        obtain ⟨c, k1, v, k2, k3⟩ := get j hjn
        rw [k2] at hj; cases hj
        exact ⟨c, by rw [List.getElem?_take_of_lt hjn, List.getElem?_drop]; simpa using k1, k3⟩
      refine ⟨.agg ((cc.toList.drop (base + o)).take n).toArray, ?_, .agg hu2⟩
      have hld := Go.run_loadCells_list (P := P) w ⟨k, base + o, none⟩ ((cc.toList.drop (base + o)).take n) (fun j u hj => by
        have hjn : j < n := by have := (List.getElem?_eq_some_iff.1 hj).1; omega
        rw [List.getElem?_take_of_lt hjn, List.getElem?_drop] at hj
        rw [addr_add, cell_heap hk]
        simpa using hj)
      rw [hul] at hld
      simp only [Go.loadVar, Sem.run_bind, run_isAgg hu, hg, Go.Result.andThen_ok, if_true, run_sizeOf hi, hn, hld, Sem.run_pure]
  | false =>
    simp only [cutV, nth_eq] at hv
    obtain ⟨c, k1, k2⟩ := hcs o v hv
    refine ⟨c, ?_, k2⟩
    simp only [Go.loadVar, Sem.run_bind, run_isAgg hu, hg, Go.Result.andThen_ok, Bool.false_eq_true, if_false, Go.run_load, cell_heap hk, k1]
theorem mLd_ok (hT : TabOk P tt ft) (hE : EnR ρ π wr en a) {t : TypeId} {n : Nat} {ag : Bool} (ht : tyVar tt t = some (n, ag)) {x : Operand} {y : Opd} (hx : opd wr x = some y) {C : Orc} {res : Res} (h : mLd y n ag C en bx nb H = some res) {w : World} (hP : Pre ρ π H bx nb w A B res) :
    ∃ c w', (Go.Instr.loadAt t (a.eval x)).run P w = .ok c w' ∧ Outcome ρ π H bx nb w res c w' := by
  unfold mLd at h
  split at h
  · rename_i g o he
    obtain ⟨k, hk, e⟩ := (opd_ok hE hx he).inv_lp
    unfold ldBox at h
    cases hb : bx.get g with
    | none => rw [hb] at h; cases h
    | some cs =>
      rw [hb] at h
      simp only at h
      cases hv : cutV cs o n ag with
      | none => rw [hv] at h; cases h
      | some v =>
        rw [hv] at h; cases h
        have hg : g < nb := by
          rcases Nat.lt_or_ge g nb with h | h
          · exact h
          · rw [hP.bn g h] at hb; cases hb
        obtain ⟨cc, el, k1, k2⟩ := hP.box.get g k cs hk (by rw [hP.hB g false rfl hg k hk]; exact hb)
        obtain ⟨c, r1, r2⟩ := load_ok (ρ := ρ) (o := o) (base := 0) hT ht k1 (fun i v hi => by
          obtain ⟨c, e1, e2⟩ := k2.get i v hi
          exact ⟨c, by simpa using e1, e2⟩) hv
        refine ⟨c, w, ?_, .inr (.inl ⟨g, false, π, rfl, rfl, ?_, .v r2, fun _ => by rw [hk]; simp⟩)⟩
        · rw [e]
          simp only [Go.Instr.loadAt, Go.Instr.sureAddr, Sem.run_bind, Sem.run_pure, Go.Result.andThen_ok]
          rw [Nat.zero_add] at r1
          exact r1
        · refine ⟨fun _ _ h => h, fun _ _ h => .inl h, Nat.le_refl _, fun j ds hj hd => ?_, Nat.le_refl _, fun g k h h' => (by rw [h'] at h; cases h), fun _ _ _ => rfl, fun _ _ => rfl, Outside.refl _⟩
          rw [hk] at hj; cases hj
          rw [hb] at hd; cases hd
          exact ⟨cc, el, k1, k2⟩
  · rename_i b o he
    obtain ⟨I, hI, e⟩ := (opd_ok hE hx he).val.inv_p
    unfold ldBlk at h
    split at h
    · rename_i cs es fl hb
      cases hv : cutV cs o n ag with
      | none => rw [hv] at h; cases h
      | some v =>
        rw [hv] at h; cases h
        have hτ : tl [(b, false)] b := ⟨false, by simp⟩
        have hAb := hP.hA _ rfl b I hI hτ
        obtain ⟨cc, el, fz, k1, _, _, k4, _⟩ := hP.mem.get b I cs es fl hI (hAb.trans hb)
        obtain ⟨c, r1, r2⟩ := load_ok (ρ := ρ) (o := o) hT ht k1 k4 hv
        refine ⟨c, w, ?_, .inl ⟨_, ρ, rfl, rfl, rfl, HStep.read hP.mem (hP.hA _ rfl) hP.hn ⟨rfl, rfl, rfl⟩, .v r2, fun b' hb' => ?_⟩⟩
        · rw [e]
          simp only [Go.Instr.loadAt, Go.Instr.sureAddr, Sem.run_bind, Sem.run_pure, Go.Result.andThen_ok]
          exact r1
        · obtain ⟨x, hx⟩ := hb'
          simp only [List.mem_singleton, Prod.mk.injEq] at hx
          rw [hx.1, hI]; simp
    · cases h
  · cases h
theorem allS_mem {vs : List V} {us : List Value} (h : allS vs = true) (hr : VRs ρ vs us) : ∀ u ∈ us, u.oneCell' = true := by
  rw [allS_eq] at h
  induction hr using VRs.rec (motive_1 := fun _ _ _ => True) with
  | nil => intro u hu; cases hu
  | cons hv hvs ih1 ih2 =>
    rw [List.all_cons, Bool.and_eq_true] at h
    intro u hu
    rcases List.mem_cons.1 hu with rfl | hu
    · exact hv.scalar h.1
    · exact ih2 h.2 u hu
  | _ => trivial

theorem stBlk_ok {b o : Nat} {vs : List V} {s : S} {l : List (Nat × Bool)} {res : Res} (h : stBlk bx nb H b o vs s l = some res) {us : List Value} (hv : VRs ρ vs us) (h1 : allS vs = true) {w : World} (hP : Pre ρ π H bx nb w A B res)
    {I : BI} (hI : ρ b = some I) (hl : ∀ k, tl l k → ρ k ≠ none) {c : Value} (hs : SR ρ π s c) :
    ∃ w', (Go.storeCells ⟨I.blk, I.base + o, none⟩ us).run P w = .ok () w' ∧ Outcome ρ π H bx nb w res c w' := by
  unfold stBlk at h
  split at h
  · rename_i cs es fl hb
    split at h
    · cases h
    · rename_i hro
      cases hc : spliceX o vs cs with
      | none => rw [hc] at h; cases h
      | some cs' =>
        rw [hc] at h; cases h
        have hτ : tl ((b, true) :: l) b := ⟨true, by simp⟩
        obtain ⟨cc, el, k1, k2, k3⟩ := HStep.store hP.mem (hP.hA _ rfl) hP.hn hI hb hτ (fun e => hro e) hv hc
        refine ⟨_, ?_, .inl ⟨_, ρ, rfl, rfl, rfl, k3, hs, fun k hk => ?_⟩⟩
        · have := Go.run_storeCells_at (P := P) I.blk (I.base + o) el us 0 cc w k1 (by omega) (allS_mem h1 hv)
          simpa using this
        · obtain ⟨x, hx⟩ := hk
          rcases List.mem_cons.1 hx with hx | hx
          · cases hx; rw [hI]; simp
          · exact hl k ⟨x, hx⟩
  · cases h
theorem stBox_ok {g o k : Nat} {vs : List V} {s : S} {res : Res} (h : stBox bx nb H g o vs s = some res) {us : List Value} (hv : VRs ρ vs us) (h1 : allS vs = true) {w : World} (hP : Pre ρ π H bx nb w A B res)
    (hk : π g = some k) {c : Value} (hs : SR ρ π s c) :
    ∃ w', (Go.storeCells ⟨k, o, none⟩ us).run P w = .ok () w' ∧ Outcome ρ π H bx nb w res c w' := by
  unfold stBox at h
  cases hb : bx.get g with
  | none => rw [hb] at h; cases h
  | some cs =>
    rw [hb] at h
    simp only at h
    cases hc : spliceX o vs cs with
    | none => rw [hc] at h; cases h
    | some cs' =>
      rw [hc] at h; cases h
      have hg : g < nb := by
        rcases Nat.lt_or_ge g nb with h | h
        · exact h
        · rw [hP.bn g h] at hb; cases hb
      obtain ⟨cc, el, k1, k2⟩ := hP.box.get g k cs hk (by rw [hP.hB g true rfl hg k hk]; exact hb)
      have hl : cs.length = cc.size := k2.length.trans Array.length_toList
      have hlv := hv.length
      rw [spliceX_eq] at hc
      have hle : o + vs.length ≤ cs.length := by
        by_cases h : o + vs.length ≤ cs.length
        · exact h
        · rw [if_neg h] at hc; cases hc
      rw [if_pos hle] at hc
      cases hc
      refine ⟨w.setRow k (cc.toList.take o ++ us ++ cc.toList.drop (o + us.length)).toArray, ?_, .inr (.inl ⟨g, true, π, rfl, rfl, ?_, hs, fun _ => by rw [hk]; simp⟩)⟩
      · have := Go.run_storeCells_at (P := P) k o el us 0 cc w k1 (by omega) (allS_mem h1 hv)
        simpa using this
      · refine ⟨fun _ _ h => h, fun _ _ h => .inl h, Nat.le_refl _, fun j ds hj hd => ?_, by rw [Go.setRow_size]; exact Nat.le_refl _, fun g k h h' => (by rw [h'] at h; cases h), fun j _ hj => Go.setRow_other w _ _ _ (fun e => hj (by rw [e]; exact hk)), fun g' hg' => (by rw [T.get_set, if_neg hg']), Outside.setRow _ _ _⟩
        rw [hk] at hj; cases hj
        rw [T.get_set, if_pos rfl] at hd; cases hd
        refine ⟨_, el, heap_setRow k1, ?_⟩
        have := ((k2.take o).append hv).append (k2.drop (o + vs.length))
        rw [List.append_assoc, hlv] at this
        rw [hlv]
        simpa using this
theorem storeVar_run {t : TypeId} {i : TypeInfo} (hi : P.info? t = some i) {v : Value} {ad : Addr} (hv : v.cells.size = i.size) (w : World) : (Go.storeVar t ad v).run P w = (Go.storeCells ad v.cells.toList).run P w := by
  unfold Go.storeVar
  rw [Sem.run_bind, run_sizeOf hi, Go.Result.andThen_ok]
  simp [hv]
theorem mSt_ok (hT : TabOk P tt ft) (hE : EnR ρ π wr en a) {t : TypeId} {n : Nat} (ht : tySize tt t = some n) {x v : Operand} {x' v' : Opd} (hx : opd wr x = some x') (hv : opd wr v = some v') {C : Orc} {res : Res} (h : mSt x' v' n C en bx nb H = some res) {w : World} (hP : Pre ρ π H bx nb w A B res) :
    ∃ w', (Go.Instr.storeAt t (a.eval x) (a.eval v)).run P w = .ok () w' ∧ Outcome ρ π H bx nb w res Go.undef w' := by
  unfold mSt at h
  cases hu : evV en v' with
  | none => rw [hu] at h; cases h
  | some u =>
    rw [hu] at h
    simp only at h
    cases hb : (lenIs u.cells n && allS u.cells) with
    | false => rw [hb] at h; cases h
    | true =>
      rw [hb, cond_true] at h
      rw [Bool.and_eq_true, lenIs_eq] at hb
      have hlen : u.cells.length = n := by simpa using hb.1
      have hr := (opd_okV hE hv hu).cells
      obtain ⟨i, hi, hn⟩ := tySize_ok hT ht
      have hsz : (a.eval v).cells.size = i.size := by rw [← Array.length_toList, ← hr.length]; omega
      split at h
      · rename_i g o he
        obtain ⟨k, hk, e⟩ := (opd_ok hE hx he).inv_lp
        obtain ⟨w', k1, k2⟩ := stBox_ok (P := P) h hr hb.2 hP hk .u
        refine ⟨w', ?_, k2⟩
        simp only [Go.Instr.storeAt, e, Go.Instr.sureAddr, Sem.run_bind, Sem.run_pure, Go.Result.andThen_ok, storeVar_run hi hsz]
        exact k1
      · rename_i b o he
        obtain ⟨I, hI, e⟩ := (opd_ok hE hx he).val.inv_p
        obtain ⟨w', k1, k2⟩ := stBlk_ok (P := P) h hr hb.2 hP hI (fun k hk => (tl_nil hk).elim) .u
        refine ⟨w', ?_, k2⟩
        simp only [Go.Instr.storeAt, e, Go.Instr.sureAddr, Sem.run_bind, Sem.run_pure, Go.Result.andThen_ok, storeVar_run hi hsz]
        exact k1
      · cases h

/-! Slices. -/
theorem slcIn_ok {b o n l h m : Nat} {res : Res} (hr : slcIn bx nb H b o n l h m = some res) {w : World} (hP : Pre ρ π H bx nb w A B res) {I : BI} (hI : ρ b = some I) {cap cap' m' : Nat} (hc : CapOk I o cap cap')
    (hm : m' = m ∨ (m = cap ∧ m' = cap')) :
    Outcome ρ π H bx nb w res (.slice (some ⟨I.blk, I.base + (if m' = l then o else o + l * n), none⟩) (h - l) (m' - l)) w := by
  unfold slcIn at hr
  have rd : ∀ (r : Res), r.fx = .hs [(b, false)] → r.hp = H → r = res → HStep ρ (tl [(b, false)]) H w H w ρ := fun r e1 e2 e3 => by
    subst e3
    exact HStep.read hP.mem (hP.hA _ e1) hP.hn ⟨rfl, rfl, rfl⟩
  have nn : ∀ k, tl [(b, false)] k → ρ k ≠ none := fun k hk => by
    obtain ⟨x, hx⟩ := hk
    simp only [List.mem_singleton, Prod.mk.injEq] at hx
    rw [hx.1, hI]; simp
  split at hr
  · rename_i cs es fl hb
    have ho := hP.mem.get b I cs es fl hI
    split at hr
    · -- loose
      cases hq : (Nat.beq es n && (Nat.ble l m && !(Nat.beq m l && !(Nat.beq l 0)))) with
      | false => rw [hq] at hr; cases hr
      | true =>
        rw [hq, cond_true] at hr
        rw [Bool.and_eq_true, Bool.and_eq_true, beq_dec, ble_dec, beq_dec, beq_dec] at hq
        obtain ⟨q1, q2, q3⟩ := hq
        have e1 : es = n := by simpa using q1
        have e2 : l ≤ m := by simpa using q2
        have e3 : m = l → l = 0 := by
          intro e; subst e; simpa using q3
        cases hr
        have hfx : A b = H.bl.get b := hP.hA _ rfl b I hI ⟨false, by simp⟩
        obtain ⟨cc, el, fz, _, _, _, _, k5⟩ := ho (hfx.trans hb)
        simp only at k5
        have hmm : m ≤ m' := by
          rcases hm with e | ⟨ea, eb⟩
          · omega
          · unfold CapOk at hc; rw [k5] at hc
            rcases hc with e | ⟨e, _⟩ <;> omega
        have haddr : (if m' = l then o else o + l * n) = o + l * n := by
          by_cases e : m' = l
          · rw [if_pos e]
            have : m = l := by omega
            rw [e3 this]; omega
          · rw [if_neg e]
        rw [haddr]
        refine .inl ⟨_, ρ, rfl, rfl, rfl, rd _ rfl rfl rfl, .v (.s hI ?_), nn⟩
        unfold CapOk at hc ⊢
        rw [k5] at hc ⊢
        simp only at hc ⊢
        rcases hm with e | ⟨ea, eb⟩
        · exact .inl (by omega)
        · rcases hc with e | ⟨ec, ed⟩
          · exact .inl (by omega)
          · refine .inr ⟨by omega, ?_⟩
            have : l * n + (m' - l) * n = m' * n := by rw [← Nat.add_mul]; congr 1; omega
            subst e1 eb
            omega
    · rename_i hnl
      cases hr
      have hfx : A b = H.bl.get b := hP.hA _ rfl b I hI ⟨false, by simp⟩
      obtain ⟨cc, el, fz, _, _, _, _, k5⟩ := ho (hfx.trans hb)
      have k6 : I.loose = none := by rw [k5]; cases fl <;> first | rfl | exact absurd rfl hnl
      have hcc : cap' = cap := by unfold CapOk at hc; rw [k6] at hc; exact hc
      have e : m' = m := by rcases hm with e | ⟨ea, eb⟩ <;> omega
      subst e
      have haddr : (if m' = l then o else o + l * n) = (bif Nat.beq m' l then o else o + l * n) := by
        by_cases e : m' = l
        · rw [if_pos e, beq_t e, cond_true]
        · rw [if_neg e, beq_f e, cond_false]
      rw [haddr]
      refine .inl ⟨_, ρ, rfl, rfl, rfl, rd _ rfl rfl rfl, .v (.s hI ?_), nn⟩
      unfold CapOk; rw [k6]
  · cases hr
theorem mSlc_ok (hT : TabOk P tt ft) (hE : EnR ρ π wr en a) {t e : TypeId} {n : Nat} (hu : und tt t = some (.slice e)) (hn : tySize tt e = some n) {x : Operand} {x' : Opd} {lo hi mx : Option Operand} {lo' hi' mx' : Option Opd}
    (hx : opd wr x = some x') (h1 : opdO wr lo = some lo') (h2 : opdO wr hi = some hi') (h3 : opdO wr mx = some mx') {C : Orc} {res : Res} (h : mSlc x' lo' hi' mx' n C en bx nb H = some res) {w : World} (hP : Pre ρ π H bx nb w A B res) :
    ∃ c w', (Go.Instr.sliceAt t (a.eval x) (lo.map a.eval) (hi.map a.eval) (mx.map a.eval)).run P w = .ok c w' ∧ Outcome ρ π H bx nb w res c w' := by
  unfold mSlc at h
  obtain ⟨i, hi0, hsz⟩ := tySize_ok hT hn
  have hu' := und_ok hT hu
  split at h
  · rename_i ad len cap hv
    cases hb : bounds3 en len cap lo' hi' mx' with
    | none => rw [hb] at h; cases h
    | some q =>
      obtain ⟨l, hh, m⟩ := q
      rw [hb] at h
      simp only at h
      have hvr := opd_okV hE hx hv
      split at h
      · cases h
        rw [hvr.inv_s0]
        obtain ⟨k1, k2⟩ := bounds_ok (P := P) hE h1 h2 h3 hb (Nat.le_refl _) true w
        have km : (if mx.isSome = true then m else cap) = m := by
          cases mx with
          | none => simp [k2 rfl]
          | some _ => rfl
        rw [km] at k1
        refine ⟨.slice none (hh - l) (m - l), w, ?_, .inr (.inr ⟨rfl, rfl, rfl, rfl, ⟨rfl, rfl, rfl⟩, .v (.s0 _ _)⟩)⟩
        simp only [Go.Instr.sliceAt, Go.Instr.slice, Sem.run_bind, run_underlying hu', Go.Result.andThen_ok, k1, run_sizeOf hi0, Sem.run_pure]
        simp
      · rename_i b o
        obtain ⟨I, cap', hI, hc, e1⟩ := hvr.inv_s
        have hcc : cap ≤ cap' := by
          unfold CapOk at hc
          split at hc
          · omega
          · rcases hc with e | ⟨e, _⟩ <;> omega
        obtain ⟨k1, k2⟩ := bounds_ok (P := P) hE h1 h2 h3 hb hcc true w
        have := slcIn_ok (cap := cap) (cap' := cap') (m' := if mx.isSome = true then m else cap') h hP hI hc (by
          cases mx with
          | none => exact .inr ⟨k2 rfl, rfl⟩
          | some _ => exact .inl rfl)
        refine ⟨_, w, ?_, this⟩
        rw [e1]
        simp only [Go.Instr.sliceAt, Go.Instr.slice, Sem.run_bind, run_underlying hu', Go.Result.andThen_ok, k1, run_sizeOf hi0, Sem.run_pure, hsz]
        congr 2
        generalize (if mx.isSome = true then m else cap') = m'
        by_cases e : m' = l
        · rw [if_pos e, if_pos e]
        · rw [if_neg e, if_neg e]; simp [addr_add, Nat.add_assoc]
  · cases h

/-! Rows of zeros. -/
theorem range_zeros (zc : Array Value) (n : Nat) (hn : zc.size = n) : ∀ len, (List.range (len * n)).map (fun i => zc[i % zc.size]!) = (List.replicate len zc.toList).flatten
  | 0 => by simp
  | len + 1 => by
    rw [Nat.succ_mul, Nat.add_comm, List.range_add, List.map_append, List.replicate_succ, List.flatten_cons, ← range_zeros zc n hn len]
    congr 1
    · apply List.ext_getElem?
      intro j
      rw [List.getElem?_map]
      by_cases hj : j < n
      · have hjs : j < zc.size := by omega
        rw [List.getElem?_range hj, Option.map_some, hn, Nat.mod_eq_of_lt hj, Array.getElem?_toList, getElem?_pos zc j hjs, getElem!_pos zc j hjs]
      · rw [List.getElem?_eq_none (by simp; omega), List.getElem?_eq_none (by simp; omega)]; rfl
    · rw [List.map_map]
      apply List.map_congr_left
      intro j _
      simp only [Function.comp]
      rw [hn, Nat.add_mod_left]
theorem VRs.flatten {z : List V} {zc : List Value} (h : VRs ρ z zc) : ∀ n, VRs ρ (List.replicate n z).flatten (List.replicate n zc).flatten
  | 0 => by simpa using VRs.nil
  | n + 1 => by
    rw [List.replicate_succ, List.replicate_succ, List.flatten_cons, List.flatten_cons]
    exact h.append (VRs.flatten h n)
theorem zeros_ok {z : List V} {zc : Array Value} (h : VRs ρ z zc.toList) {n : Nat} (hn : z.length = n) (len : Nat) :
    VRs ρ (List.replicate len z).flatten ((Array.range (len * n)).map (fun i => zc[i % zc.size]!)).toList := by
  have hz : zc.size = n := by rw [← hn, h.length]; exact Array.length_toList.symm
  have := h.flatten len
  rw [← range_zeros zc n hz len] at this
  simpa using this

theorem zero_row {β : Type} {e : TypeId} {i : TypeInfo} {zv : Value} (hi : P.info? e = some i) (hz : i.zero = some zv) (k : Nat) (w : World) (K : Array Value → Sem β)
    (hK : k = 0 → K #[] = K zv.cells) :
    ((if k = 0 then (do let z ← Pure.pure #[]; K z) else (do let v ← Go.zeroValue e; let z ← Pure.pure v.cells; K z) : Sem β)).run P w = (K zv.cells).run P w := by
  by_cases hk : k = 0
  · rw [if_pos hk, pure_bind, hK hk]
  · rw [if_neg hk]
    simp only [Sem.run_bind, run_zero hi hz, Go.Result.andThen_ok, Sem.run_pure]
theorem mBsl_ok (hT : TabOk P tt ft) (hE : EnR ρ π wr en a) {t e : TypeId} {n len : Nat} {z : List V} (hu : isSlice tt t = some e) (hn : tySize tt e = some n) (hz : tyZero tt e = some z) (hb : Nat.ble (Nat.mul len n) 16777216 = true) (hzl : lenIs z n = true)
    {ps : Array (Nat × Operand)} {os : List (Nat × Nat × Opd)} (ho : opdP wr (fun i => some (Nat.mul i n, n)) ps.toList = some os) {C : Orc} {res : Res} (h : mBsl len (List.replicate len z).flatten os C en bx nb H = some res) {w : World} (hP : Pre ρ π H bx nb w A B res) :
    ∃ c w', (Go.Instr.buildSlice t len (ps.map fun x => (x.1, a.eval x.2))).run P w = .ok c w' ∧ Outcome ρ π H bx nb w res c w' := by
  unfold mBsl at h
  split at h
  · rename_i vs hvs
    split at h
    · rename_i cs hcs
      obtain ⟨i, hi, hsz⟩ := tySize_ok hT hn
      obtain ⟨i', zv, hi', hzv, hzr⟩ := tyZero_ok (ρ := ρ) hT hz
      rw [hi] at hi'; cases hi'
      rw [lenIs_eq] at hzl
      have hzl : z.length = n := by simpa using hzl
      have hzz := zeros_ok hzr hzl len
      obtain ⟨cc, e1, e2⟩ := fill_ok hE (place := fun i => some (i * n, n)) (fun i q hq => by simpa using hq) _ _ _ _ _ _ ho hvs hzz hcs
      have hble : ¬ (len * n > 16777216) := by have := Nat.le_of_ble_eq_true hb; rw [Nat.mul_eq] at this; omega
      refine ⟨_, _, ?_, blk_new (cc := cc.toArray) (el := e) (by simpa using e2) ⟨rfl, rfl, rfl⟩ h hP (fun b hb => (tl_nil hb).elim) (VR.news len len)⟩
      simp only [Go.Instr.buildSlice, Sem.run_bind, run_underlying (isSlice_ok hT hu), Go.Result.andThen_ok, run_sizeOf hi, hsz]
      rw [if_neg (by simpa using hble)]
      refine (zero_row hi hzv (len * n) w _ (fun h0 => by have e0 : Array.range 0 = #[] := rfl; simp [h0, e0])).trans ?_
      have e3 : ∀ xs : Array Value, xs.toList.toArray = xs := fun xs => by simp
      rw [e3] at e1
      simp only [Array.toList_map, e1]
      simp only [Go.newRow, Sem.run_bind, Go.run_newObj, Go.Result.andThen_ok, Sem.run_pure]
      rfl
    · cases h
  · cases h
theorem mMsl_ok (hT : TabOk P tt ft) (hE : EnR ρ π wr en a) {t e : TypeId} {n bytes : Nat} {z : List V} (hu : isSlice tt t = some e) (hn : tySize tt e = some n) (hy : tyBytes tt e = some bytes) (hz : tyZero tt e = some z) (hzl : lenIs z n = true)
    {l c : Operand} {l' c' : Opd} (hl : opd wr l = some l') (hc : opd wr c = some c') {C : Orc} {res : Res} (h : mMsl l' c' bytes z C en bx nb H = some res) {w : World} (hP : Pre ρ π H bx nb w A B res) :
    ∃ v w', (Go.Instr.makeSlice t (a.eval l) (a.eval c)).run P w = .ok v w' ∧ Outcome ρ π H bx nb w res v w' := by
  unfold mMsl at h
  split at h
  · rename_i ln hln
    split at h
    · rename_i cn hcn
      cases hb : (Nat.ble ln cn && (Nat.ble (bytes * cn) 281474976710656 && Nat.ble cn 9223372036854775807)) with
      | false => rw [hb] at h; cases h
      | true =>
        rw [hb, cond_true] at h
        rw [Bool.and_eq_true, Bool.and_eq_true] at hb
        have b1 := Nat.le_of_ble_eq_true hb.1
        have b2 := Nat.le_of_ble_eq_true hb.2.1
        have b3 := Nat.le_of_ble_eq_true hb.2.2
        obtain ⟨i, hi, hsz⟩ := tySize_ok hT hn
        obtain ⟨i', hi', hby⟩ := tyBytes_ok hT hy
        rw [hi] at hi'; cases hi'
        obtain ⟨i', zv, hi', hzv, hzr⟩ := tyZero_ok (ρ := ρ) hT hz
        rw [hi] at hi'; cases hi'
        rw [lenIs_eq] at hzl
        have hzl : z.length = n := by simpa using hzl
        have e1 := (opd_okV hE hl hln).inv_i
        have e2 := (opd_okV hE hc hcn).inv_i
        have hzz := zeros_ok hzr hzl cn
        refine ⟨_, _, ?_, blk_new (cc := (Array.range (cn * n)).map (fun i => zv.cells[i % zv.cells.size]!)) (el := e) hzz ⟨rfl, rfl, rfl⟩ h hP (fun b hb => (tl_nil hb).elim) (VR.news ln cn)⟩
        have w1 : IntKind.i64.wrap (Int.ofNat ln) = ln := by rw [Go.IntKind.wrap_i64, Int.ofNat_eq_natCast]; omega
        have w2 : IntKind.i64.wrap (Int.ofNat cn) = cn := by rw [Go.IntKind.wrap_i64, Int.ofNat_eq_natCast]; omega
        have hcond : (decide ((cn : Int) < 0) || decide ((bytes : Int) * (cn : Int) > 2 ^ 48) || decide ((ln : Int) < 0) || decide ((ln : Int) > (cn : Int))) = false := by
          have e0 : (bytes : Int) * (cn : Int) = ((bytes * cn : Nat) : Int) := by simp
          rw [e0]
          have a1 : ¬ ((cn : Int) < 0) := by omega
          have a2 : ¬ (((bytes * cn : Nat) : Int) > 2 ^ 48) := by omega
          have a3 : ¬ ((ln : Int) < 0) := by omega
          have a4 : ¬ ((ln : Int) > (cn : Int)) := by omega
          simp only [a1, a2, a3, a4, decide_false, Bool.or_false]
        simp only [Go.Instr.makeSlice, Sem.run_bind, run_underlying (isSlice_ok hT hu), Go.Result.andThen_ok, e1, e2, Go.asInt, Go.asIntOf, Sem.run_pure, run_typeInfo hi, hby, w1, w2]
        rw [hcond, if_neg (by simp)]
        simp only [Sem.run_bind, Go.run_askRoom, Go.Result.andThen_ok, run_sizeOf hi, hsz, Int.toNat_natCast]
        refine (zero_row hi hzv (cn * n) w _ (fun h0 => by have e0 : Array.range 0 = #[] := rfl; simp [h0, e0])).trans ?_
        simp only [Go.newRow, Sem.run_bind, Go.run_newObj, Go.Result.andThen_ok, Sem.run_pure]
        rfl
    · cases h
  · cases h

/-! Append, copy. -/
theorem load_row {w : World} {k base : Nat} {cs : List V} {cc : Array Value} {el : TypeId} {fz : Nat × Nat} (hk : w.heap[k]? = some (.cells cc el fz)) (hcs : ∀ (i : Nat) (v : V), cs[i]? = some v → ∃ c, cc[base + i]? = some c ∧ VR ρ v c)
    {o n : Nat} {l : List V} (hc : cut cs o n = some l) : ∃ us : List Value, us.length = n ∧ VRs ρ l us ∧ ∀ w' : World, w'.heap = w.heap → (Go.loadCells ⟨k, base + o, none⟩ n).run P w' = .ok us.toArray w' := by
  obtain ⟨hle, rfl⟩ := cut_some hc
  have hlen : ((cs.drop o).take n).length = n := by simp; omega
  have get : ∀ j, j < n → ∃ c, cc[base + o + j]? = some c ∧ ∃ v, ((cs.drop o).take n)[j]? = some v ∧ VR ρ v c := fun j hj => by
    have hj' : o + j < cs.length := by omega
    obtain ⟨c, k1, k2⟩ := hcs (o + j) cs[o + j] (List.getElem?_eq_getElem hj')
    exact ⟨c, by rw [Nat.add_assoc]; exact k1, cs[o + j], by rw [List.getElem?_take_of_lt hj, List.getElem?_drop, List.getElem?_eq_getElem hj'], k2⟩
  have hsz : n = 0 ∨ base + o + n ≤ cc.size := by
    rcases Nat.eq_zero_or_pos n with h | h
    · exact .inl h
    · obtain ⟨c, k1, _⟩ := get (n - 1) (by omega)
      have := (Array.getElem?_eq_some_iff.1 k1).1
      exact .inr (by omega)
  have hul : ((cc.toList.drop (base + o)).take n).length = n := by simp; omega
  refine ⟨(cc.toList.drop (base + o)).take n, hul, ?_, ?_⟩
  · refine VRs.of_get (by rw [hlen, hul]) fun j u hj => ?_
    have hjn : j < n := by have := (List.getElem?_eq_some_iff.1 hj).1; omega
    obtain ⟨c, k1, v, k2, k3⟩ := get j hjn
    rw [k2] at hj; cases hj
    exact ⟨c, by rw [List.getElem?_take_of_lt hjn, List.getElem?_drop]; simpa using k1, k3⟩
  · intro w' hw
    have hld := Go.run_loadCells_list (P := P) w' ⟨k, base + o, none⟩ ((cc.toList.drop (base + o)).take n) (fun j u hj => by
      have hjn : j < n := by have := (List.getElem?_eq_some_iff.1 hj).1; omega
      rw [List.getElem?_take_of_lt hjn, List.getElem?_drop] at hj
      rw [addr_add, cell_heap (by rw [hw]; exact hk)]
      simpa using hj)
    rw [hul] at hld
    exact hld
theorem row_ok {x : Option (Nat × Nat)} {len cap n k : Nat} {row : List V} (hr : rowOf H x k n = some row) {c : Value} (hv : VR ρ (.s x len cap) c) {w : World} (hM : MemR ρ A w) (hA : ∀ b I, ρ b = some I → tl (blkOf x) b → A b = H.bl.get b) :
    ∃ us : List Value, us.length = k * n ∧ VRs ρ row us ∧ ∀ w' : World, w'.heap = w.heap → (Go.Builtin.firstCells n k c).run P w' = .ok us.toArray w' := by
  unfold rowOf at hr
  split at hr
  · cases hk : Nat.beq k 0 with
    | false => rw [hk] at hr; cases hr
    | true =>
      rw [hk, cond_true] at hr; cases hr
      have : k = 0 := Nat.eq_of_beq_eq_true hk
      subst this
      rw [hv.inv_s0]
      exact ⟨[], by simp, .nil, fun w' _ => rfl⟩
  · rename_i b o
    split at hr
    · rename_i cs es fl hb
      obtain ⟨I, cap', hI, _, e⟩ := hv.inv_s
      obtain ⟨cc, el, fz, k1, _, _, k4, _⟩ := hM.get b I cs es fl hI ((hA b I hI ⟨false, by simp [blkOf]⟩).trans hb)
      obtain ⟨us, h1, h2, h3⟩ := load_row (P := P) k1 k4 hr
      exact ⟨us, h1, h2, fun w' hw => by rw [e]; exact h3 w' hw⟩
    · cases hr
theorem HStep.drop {τ : Nat → Prop} {w w' : World} {ρ' : Ren} {H1 : Heap} (h : HStep ρ τ H w H1 w' ρ') (k : Nat) : HStep ρ τ H w (H1.write k none) w' ρ' := by
  have key : ∀ b o, (H1.write k none).bl.get b = some o → H1.bl.get b = some o := fun b o hg => by
    rw [Heap.get_write] at hg
    by_cases e : b = k
    · rw [if_pos e] at hg; cases hg
    · rw [if_neg e] at hg; exact hg
  exact ⟨h.mono, h.dom, fun b I cs es fl ht hr hg => h.post b I cs es fl ht hr (key b _ hg), fun b b' I I' cs es fl o ht ht' hne hr hr' hg hg' hfl => h.inj b b' I I' cs es fl o ht ht' hne hr hr' (key b _ hg) (key b' _ hg') hfl,
    h.size, h.keep, h.fresh, h.lt, h.out⟩
/-- An append that makes a new block. -/
theorem app_new {τ : Nat → Prop} {w : World} (hM : MemR ρ A w) (hA : ∀ b I, ρ b = some I → τ b → A b = H.bl.get b) (hn : ∀ b, H.nx ≤ b → H.bl.get b = none) (hf : ρ H.nx = none)
    {old new : List V} {uo un : List Value} (ho : VRs ρ old uo) (hu : VRs ρ new un) {el : TypeId} {n need cap : Nat} {zc : Array Value} (hzc : zc.size = n) (hlen : uo.length + un.length = need * n) (hcap : need ≤ cap) {w1 : World} (hw : w1.Alike w) :
    let cc := uo.toArray ++ un.toArray ++ Go.Builtin.zeroCells zc (cap - need)
    HStep ρ τ H w (H.new (.cells (old ++ new) n .loose)) (w1.alloc (.cells cc el)) (ρ.set H.nx ⟨w.heap.size, 0, some (n, cap * n)⟩) ∧
      VR (ρ.set H.nx ⟨w.heap.size, 0, some (n, cap * n)⟩) (.s (some (H.nx, 0)) need need) (.slice (some ⟨w.heap.size, 0, none⟩) need cap) := by
  intro cc
  have hsz : cc.size = cap * n := by
    show (uo.toArray ++ un.toArray ++ Go.Builtin.zeroCells zc (cap - need)).size = _
    simp only [Array.size_append, List.size_toArray, Go.Builtin.zeroCells, Array.size_map, Array.size_range, hzc]
    rw [hlen, ← Nat.add_mul]; congr 1; omega
  refine ⟨HStep.new hM hA hn hf (fun i v hi => ?_) ?_ (by rw [hsz]) hw, ?_⟩
  · obtain ⟨c, h1, h2⟩ := (ho.append hu).get i v hi
    refine ⟨c, ?_, h2⟩
    have : i < (uo ++ un).length := (List.getElem?_eq_some_iff.1 h1).1
    show (uo.toArray ++ un.toArray ++ Go.Builtin.zeroCells zc (cap - need))[i]? = some c
    rw [List.length_append] at this
    rw [Array.getElem?_append_left (by simp; omega)]
    simpa using h1
  · rw [(ho.append hu).length, List.length_append, hlen, hsz]; exact Nat.mul_le_mul_right _ hcap
  · have := VR.s (ρ := ρ.set H.nx ⟨w.heap.size, 0, some (n, cap * n)⟩) (b := H.nx) (o := 0) (l := need) (c := need) (c' := cap) (Ren.set_same ρ H.nx _) (.inr ⟨hcap, by simp⟩)
    exact this

theorem run_app_fits {t u e e' ty : TypeId} {i : TypeInfo} (ht : P.underlying t = some (.slice e)) (hu : P.underlying u = some (.slice e')) (hi : P.info? e = some i) {tys : Array TypeId} (h0 : tys[0]? = some t) (h1 : tys[1]? = some u)
    {base : Option Addr} {sl sc : Nat} {c2 : Value} {b2 : Option Addr} {n k2 : Nat} (hc2 : c2 = .slice b2 n k2) {un : List Value} {w : World} (hun : (Go.Builtin.firstCells i.size n c2).run P w = .ok un.toArray w) (hfit : sl + n ≤ sc) :
    (Go.Builtin.append_ tys ty #[.slice base sl sc, c2]).run P w = (match base with
      | none => .ok (.slice none (sl + n) sc) w
      | some ad => ((Go.storeCells (ad.add (sl * i.size)) un).run P w).andThen fun _ w' => .ok (.slice (some ad) (sl + n) sc) w') := by
  subst hc2
  simp only [Go.Builtin.append_, h0, h1, List.getElem?_toArray, List.getElem?_cons_zero, List.getElem?_cons_succ, Sem.run_bind, run_underlying ht, run_underlying hu, Go.Result.andThen_ok, run_sizeOf hi, Go.Builtin.lenOf, Sem.run_pure]
  simp only [Bool.false_eq_true, if_false, Bool.not_false, if_true, Sem.run_bind, Sem.run_pure, Go.Result.andThen_ok]
  rw [if_pos hfit]
  simp only [Sem.run_bind, hun, Go.Result.andThen_ok]
  cases base with
  | none => rfl
  | some ad => simp
theorem run_app_new {t u e e' ty : TypeId} {i : TypeInfo} {zv : Value} (ht : P.underlying t = some (.slice e)) (hu : P.underlying u = some (.slice e')) (hi : P.info? e = some i) (hz : i.zero = some zv) {tys : Array TypeId} (h0 : tys[0]? = some t) (h1 : tys[1]? = some u)
    {base : Option Addr} {sl sc : Nat} {c2 : Value} {b2 : Option Addr} {n k2 : Nat} (hc2 : c2 = .slice b2 n k2) {un uo : List Value} {w : World} (hun : ∀ w', w'.heap = w.heap → (Go.Builtin.firstCells i.size n c2).run P w' = .ok un.toArray w')
    (huo : ∀ w', w'.heap = w.heap → (Go.Builtin.firstCells i.size sl (.slice base sl sc)).run P w' = .ok uo.toArray w') (hgrow : sc < sl + n) (hb0 : 0 < i.bytes) (hbig : (sl + n) * i.bytes ≤ 140737488355328) :
    ∃ cap, sl + n ≤ cap ∧ (Go.Builtin.append_ tys ty #[.slice base sl sc, c2]).run P w =
      .ok (.slice (some ⟨w.heap.size, 0, none⟩) (sl + n) cap) (w.drew.alloc (.cells (uo.toArray ++ un.toArray ++ Go.Builtin.zeroCells zv.cells (cap - (sl + n))) e)) := by
  subst hc2
  refine ⟨(Go.Question.appendCap (sl + n) sc e).cut (w.tape w.drawn (.appendCap (sl + n) sc e)), Nat.le_add_right _ _, ?_⟩
  have hfit : ¬ (sl + n ≤ sc) := by omega
  have hbig2 : ¬ (Go.Builtin.nextslicecap (sl + n) sc * i.bytes > 281474976710656) := by have := Go.growslice_fits (old := sc) hgrow hbig; omega
  have hby : ¬ (i.bytes = 0) := by omega
  simp only [Go.Builtin.append_, h0, h1, List.getElem?_toArray, List.getElem?_cons_zero, List.getElem?_cons_succ, Sem.run_bind, run_underlying ht, run_underlying hu, Go.Result.andThen_ok, run_sizeOf hi, Go.Builtin.lenOf, Sem.run_pure]
  simp only [Bool.false_eq_true, if_false, Bool.not_false, if_true, Sem.run_bind, Sem.run_pure, Go.Result.andThen_ok]
  rw [if_neg hfit]
  simp [run_typeInfo hi, hby, hbig2, Go.Question.forced, run_zero hi hz, Go.newRow]
  rw [huo w.drew rfl, Go.Result.andThen_ok, hun w.drew rfl, Go.Result.andThen_ok]
  simp only [List.append_toArray, ← Array.append_assoc]
  rfl
theorem lenOf_sl {x : Option (Nat × Nat)} {l k : Nat} {c : Value} (h : VR ρ (.s x l k) c) : ∃ b2 k2, c = .slice b2 l k2 ∧ k ≤ k2 := by
  cases x with
  | none => exact ⟨none, k, h.inv_s0, Nat.le_refl _⟩
  | some p =>
    obtain ⟨b, o⟩ := p
    obtain ⟨I, k', _, hc, e⟩ := h.inv_s
    refine ⟨_, _, e, ?_⟩
    unfold CapOk at hc
    split at hc
    · omega
    · rcases hc with e | ⟨e, _⟩ <;> omega

theorem tl_blkOf {x : Option (Nat × Nat)} {l k : Nat} {c : Value} (h : VR ρ (.s x l k) c) : ∀ b, tl (blkOf x) b → ρ b ≠ none := fun b hb => by
  obtain ⟨y, hy⟩ := hb
  cases x with
  | none => cases hy
  | some p =>
    obtain ⟨b', o⟩ := p
    simp only [blkOf, List.mem_singleton, Prod.mk.injEq] at hy
    obtain ⟨I, _, hI, _⟩ := h.inv_s
    rw [hy.1, hI]; simp
theorem tl_mono {l l' : List (Nat × Bool)} (h : ∀ p ∈ l, p ∈ l') {b : Nat} (hb : tl l b) : tl l' b := by
  obtain ⟨x, hx⟩ := hb; exact ⟨x, h _ hx⟩
theorem tl_cons {p : Nat × Bool} {l : List (Nat × Bool)} {b : Nat} (h : tl (p :: l) b) : b = p.1 ∨ tl l b := by
  obtain ⟨x, hx⟩ := h
  rcases List.mem_cons.1 hx with e | e
  · exact .inl (by rw [← e])
  · exact .inr ⟨x, e⟩
theorem mApp_ok (hT : TabOk P tt ft) (hE : EnR ρ π wr en a) {t u e e' : TypeId} {n bytes : Nat} {z : List V} (ht : isSlice tt t = some e) (hu : isSlice tt u = some e') (hn : tySize tt e = some n) (hy : tyBytes tt e = some bytes) (hz : tyZero tt e = some z)
    (hzl : lenIs z n = true) (hby : Nat.blt 0 bytes = true) {x y : Operand} {x' y' : Opd} (hx : opd wr x = some x') (hy' : opd wr y = some y') {C : Orc} {res : Res} (h : mApp x' y' n bytes C en bx nb H = some res) {tys : Array TypeId} (h0 : tys[0]? = some t) (h1 : tys[1]? = some u) (ty : TypeId) {w : World} (hP : Pre ρ π H bx nb w A B res) :
    ∃ c w', (Go.Builtin.append_ tys ty #[a.eval x, a.eval y]).run P w = .ok c w' ∧ Outcome ρ π H bx nb w res c w' := by
  unfold mApp at h
  split at h
  case h_2 => cases h
  rename_i ax sl sc hvx
  split at h
  case h_2 => cases h
  rename_i ay sl2 sc2 hvy
  cases hrow : rowOf H ay sl2 n with
  | none => rw [hrow] at h; cases h
  | some new =>
  rw [hrow] at h
  simp only at h
  cases hall : allS new with
  | false => rw [hall] at h; cases h
  | true =>
  rw [hall, cond_true] at h
  obtain ⟨i, hi, hsz⟩ := tySize_ok hT hn
  obtain ⟨i', hi', hbs⟩ := tyBytes_ok hT hy
  rw [hi] at hi'; cases hi'
  obtain ⟨i', zv, hi', hzv, hzr⟩ := tyZero_ok (ρ := ρ) hT hz
  rw [hi] at hi'; cases hi'
  rw [lenIs_eq] at hzl
  have hzl : z.length = n := by simpa using hzl
  have hzc : zv.cells.size = n := by rw [← hzl, hzr.length]; exact Array.length_toList.symm
  have hby : 0 < bytes := by rw [Nat.blt_eq] at hby; exact hby
  have vx := opd_okV hE hx hvx
  have vy := opd_okV hE hy' hvy
  obtain ⟨b2, k2, ey, _⟩ := lenOf_sl vy
  obtain ⟨b1, k1, ex, hk1⟩ := lenOf_sl vx
  have htP := isSlice_ok hT ht
  have huP := isSlice_ok hT hu
  cases hfit : Nat.ble (sl + sl2) sc with
  | true =>
    rw [hfit, cond_true] at h
    have hfit' := Nat.le_of_ble_eq_true hfit
    unfold appIn at h
    split at h
    · cases h
      obtain ⟨un, g1, g2, g3⟩ := row_ok (P := P) hrow vy hP.mem (hP.hA _ rfl)
      have ex0 := vx.inv_s0
      have := run_app_fits (P := P) (ty := ty) htP huP hi h0 h1 (base := none) (sl := sl) (sc := sc) ey (by rw [hsz]; exact g3 w rfl) hfit'
      rw [ex0, this]
      exact ⟨_, w, rfl, .inl ⟨_, ρ, rfl, rfl, rfl, HStep.read hP.mem (hP.hA _ rfl) hP.hn ⟨rfl, rfl, rfl⟩, .v (.s0 _ _), tl_blkOf vy⟩⟩
    · rename_i b o
      obtain ⟨I, cap', hI, hc, e1⟩ := vx.inv_s
      have hcc : sc ≤ cap' := by
        unfold CapOk at hc
        split at hc
        · omega
        · rcases hc with e | ⟨e, _⟩ <;> omega
      have hres : VR ρ (.s (some (b, o)) (sl + sl2) sc) (.slice (some ⟨I.blk, I.base + o, none⟩) (sl + sl2) cap') := .s hI hc
      split at h
      · cases h
        obtain ⟨un, g1, g2, g3⟩ := row_ok (P := P) hrow vy hP.mem (hP.hA _ rfl)
        have hun : un = [] := by cases g2; rfl
        subst hun
        have := run_app_fits (P := P) (ty := ty) htP huP hi h0 h1 (base := some ⟨I.blk, I.base + o, none⟩) (sl := sl) (sc := cap') ey (by rw [hsz]; exact g3 w rfl) (by omega)
        rw [e1, this]
        refine ⟨_, w, rfl, .inl ⟨_, ρ, rfl, rfl, rfl, HStep.read hP.mem (hP.hA _ rfl) hP.hn ⟨rfl, rfl, rfl⟩, .v hres, tl_blkOf vy⟩⟩
      · rename_i nh nt
        have hfx : res.fx = .hs ((b, true) :: blkOf ay) := by
          unfold stBlk at h
          split at h
          · split at h
            · cases h
            · split at h
              · cases h; rfl
              · cases h
          · cases h
        obtain ⟨un, g1, g2, g3⟩ := row_ok (P := P) hrow vy hP.mem (fun b' I' hI' hb' => hP.hA _ hfx b' I' hI' (tl_mono (fun p hp => List.mem_cons_of_mem _ hp) hb'))
        obtain ⟨w', q1, q2⟩ := stBlk_ok (P := P) h g2 hall hP hI (tl_blkOf vy) (.v hres)
        have := run_app_fits (P := P) (ty := ty) htP huP hi h0 h1 (base := some ⟨I.blk, I.base + o, none⟩) (sl := sl) (sc := cap') ey (by rw [hsz]; exact g3 w rfl) (by omega)
        rw [e1, this]
        refine ⟨_, w', ?_, q2⟩
        simp only [addr_add, hsz, Nat.add_assoc] at q1 ⊢
        rw [q1]; rfl
  | false =>
    rw [hfit, cond_false] at h
    have hgrow : sc < sl + sl2 := by
      rcases Nat.lt_or_ge sc (sl + sl2) with h | h
      · exact h
      · rw [ble_t h] at hfit; cases hfit
    cases hbig : Nat.ble ((sl + sl2) * bytes) 140737488355328 with
    | false => rw [hbig] at h; cases h
    | true =>
    rw [hbig, cond_true] at h
    have hbig' := Nat.le_of_ble_eq_true hbig
    unfold appOut at h
    cases hold : rowOf H ax sl n with
    | none => rw [hold] at h; cases h
    | some old =>
    rw [hold] at h
    simp only at h
    split at h
    · -- nothing there
      cases h
      obtain ⟨un, g1, g2, g3⟩ := row_ok (P := P) hrow vy hP.mem (hP.hA _ rfl)
      obtain ⟨uo, f1, f2, f3⟩ := row_ok (P := P) hold vx hP.mem (fun b I _ hb => (tl_nil hb).elim)
      have ex0 := vx.inv_s0
      rw [ex0] at f3
      obtain ⟨cap, c1, c2⟩ := run_app_new (P := P) (ty := ty) htP huP hi hzv h0 h1 (base := none) (sl := sl) (sc := sc) ey (by rw [hsz]; exact g3) (by rw [hsz]; exact f3) hgrow (by omega) (by rw [hbs]; exact hbig')
      have hf : ρ H.nx = none := hP.hf H.nx (Nat.le_refl _) (Nat.lt_succ_self _)
      obtain ⟨d1, d2⟩ := app_new hP.mem (hP.hA _ rfl) hP.hn hf f2 g2 (el := e) hzc (by rw [f1, g1, Nat.add_mul]) c1 (w1 := w.drew) ⟨rfl, rfl, rfl⟩
      rw [ex0, c2]
      exact ⟨_, _, rfl, .inl ⟨_, _, rfl, rfl, rfl, d1, .v d2, tl_blkOf vy⟩⟩
    · rename_i b o
      obtain ⟨I, cap', hI, hc, e1⟩ := vx.inv_s
      -- the realloc
      have renew : ∀ (l : List (Nat × Bool)) (H' : Heap), res = ⟨.v (.s (some (H.nx, 0)) (sl + sl2) (sl + sl2)), bx, nb, H', .hs l⟩ → H'.nx = H.nx + 1 → tl l b → (∀ p ∈ blkOf ay, p ∈ l) → (∀ p, tl l p → p = b ∨ tl (blkOf ay) p) →
          (∀ ρ' w', HStep ρ (tl l) H w (H.new (.cells (old ++ new) n .loose)) w' ρ' → HStep ρ (tl l) H w H' w' ρ') → cap' < sl + sl2 →
          ∃ c w', (Go.Builtin.append_ tys ty #[a.eval x, a.eval y]).run P w = .ok c w' ∧ Outcome ρ π H bx nb w res c w' := by
        intro l H' hres hnx hlb hly hl2 hdrop hlt
        subst hres
        obtain ⟨un, g1, g2, g3⟩ := row_ok (P := P) hrow vy hP.mem (fun b' I' hI' hb' => hP.hA _ rfl b' I' hI' (tl_mono hly hb'))
        obtain ⟨uo, f1, f2, f3⟩ := row_ok (P := P) hold vx hP.mem (fun b' I' hI' hb' => hP.hA _ rfl b' I' hI' (by
          obtain ⟨y, hy⟩ := hb'
          simp only [blkOf, List.mem_singleton, Prod.mk.injEq] at hy
          rw [hy.1]; exact hlb))
        rw [e1] at f3
        obtain ⟨cap, c1, c2⟩ := run_app_new (P := P) (ty := ty) htP huP hi hzv h0 h1 (base := some ⟨I.blk, I.base + o, none⟩) (sl := sl) (sc := cap') ey (by rw [hsz]; exact g3) (by rw [hsz]; exact f3) hlt (by omega) (by rw [hbs]; exact hbig')
        have hf : ρ H.nx = none := hP.hf H.nx (Nat.le_refl _) (by simp only; omega)
        obtain ⟨d1, d2⟩ := app_new hP.mem (hP.hA _ rfl) hP.hn hf f2 g2 (el := e) hzc (by rw [f1, g1, Nat.add_mul]) c1 (w1 := w.drew) ⟨rfl, rfl, rfl⟩
        rw [e1, c2]
        refine ⟨_, _, rfl, .inl ⟨_, _, rfl, rfl, rfl, hdrop _ _ d1, .v d2, fun p hp => ?_⟩⟩
        rcases hl2 p hp with rfl | hp
        · rw [hI]; simp
        · exact tl_blkOf vy p hp
      split at h
      · rename_i cs es hb
        cases hes : Nat.beq es n with
        | false => rw [hes] at h; cases h
        | true =>
        rw [hes, cond_true] at h
        have hes' : es = n := Nat.eq_of_beq_eq_true hes
        subst hes'
        rcases Nat.lt_or_ge cap' (sl + sl2) with hlt | hge
        · simp only [Option.some.injEq] at h
          exact renew ((b, true) :: blkOf ay) _ h.symm rfl ⟨true, by simp⟩ (fun p hp => List.mem_cons_of_mem _ hp) (fun p hp => tl_cons hp) (fun ρ' w' hs => hs.drop b) hlt
        · -- room behind what is known
          simp only [Option.some.injEq] at h
          subst h
          obtain ⟨un, g1, g2, g3⟩ := row_ok (P := P) hrow vy hP.mem (fun b' I' hI' hb' => hP.hA _ rfl b' I' hI' (tl_mono (fun p hp => List.mem_cons_of_mem _ hp) hb'))
          have hf : ρ H.nx = none := hP.hf H.nx (Nat.le_refl _) (Nat.lt_succ_self _)
          have hτ : tl ((b, true) :: blkOf ay) b := ⟨true, by simp⟩
          have hcut : cut cs o (sl * es) = some old := by
            simp only [rowOf, hb] at hold; exact hold
          have hcap : ∀ sz, I.loose = some (es, sz) → sc ≤ cap' ∧ I.base + o + cap' * es ≤ sz := fun sz hs => by
            unfold CapOk at hc; rw [hs] at hc
            rcases hc with e | e
            · omega
            · exact e
          obtain ⟨cc, el, q1, q2, q3⟩ := HStep.grow hP.mem (hP.hA _ rfl) hP.hn hf hI hb hτ g2 hcut (fun sz hs => by
            have := (hcap sz hs).2
            have h1 : sl * es + un.length = (sl + sl2) * es := by rw [g1, Nat.add_mul]
            have h2 : (sl + sl2) * es ≤ cap' * es := Nat.mul_le_mul_right _ hge
            omega)
          have := run_app_fits (P := P) (ty := ty) htP huP hi h0 h1 (base := some ⟨I.blk, I.base + o, none⟩) (sl := sl) (sc := cap') ey (by rw [hsz]; exact g3 w rfl) hge
          have hst := Go.run_storeCells_at (P := P) I.blk (I.base + o + sl * es) el un 0 cc w q1 (by omega) (allS_mem hall g2)
          rw [e1, this]
          simp only [addr_add, hsz, hst, Go.Result.andThen_ok]
          refine ⟨_, _, rfl, .inl ⟨_, _, rfl, rfl, rfl, by simpa using q3, .v ?_, fun p hp => ?_⟩⟩
          · have hv := VR.s (ρ := ρ.set H.nx ⟨I.blk, I.base + o, I.loose⟩) (b := H.nx) (o := 0) (l := sl + sl2) (c := sl + sl2) (c' := cap') (Ren.set_same ρ H.nx _) (by
              unfold CapOk
              cases hl : I.loose with
              | none => unfold CapOk at hc; rw [hl] at hc; simp only; omega
              | some q =>
                obtain ⟨es', sz⟩ := q
                simp only
                unfold CapOk at hc; rw [hl] at hc
                rcases hc with e | ⟨_, e⟩
                · omega
                · exact .inr ⟨hge, by omega⟩)
            exact hv
          · rcases tl_cons hp with rfl | hp
            · rw [hI]; simp
            · exact tl_blkOf vy p hp
      · rename_i cs1 es1 fl1 hnl hb
        simp only [Option.some.injEq] at h
        have hfxb : tl ((b, false) :: blkOf ay) b := ⟨false, by simp⟩
        refine renew ((b, false) :: blkOf ay) _ h.symm rfl hfxb (fun p hp => List.mem_cons_of_mem _ hp) (fun p hp => tl_cons hp) (fun ρ' w' hs => hs) ?_
        have hA := hP.hA _ (by rw [← h]) b I hI hfxb
        obtain ⟨cc, el, fz, _, _, _, _, k5⟩ := hP.mem.get b I _ _ _ hI (hA.trans hb)
        have k6 : I.loose = none := by rw [k5]; cases fl1 <;> first | rfl | exact (hnl _ _ rfl).elim | exact (hnl rfl).elim | exact (hnl _ _ _ rfl).elim
        unfold CapOk at hc; rw [k6] at hc
        simp only at hc
        omega
      · cases h

theorem run_cpy {t e ty : TypeId} {i : TypeInfo} (ht : P.underlying t = some (.slice e)) (hi : P.info? e = some i) {tys : Array TypeId} (h0 : tys[0]? = some t)
    {base : Option Addr} {sl sc : Nat} {c2 : Value} {b2 : Option Addr} {n k2 : Nat} (hc2 : c2 = .slice b2 n k2) {un : List Value} {w : World} (hun : (Go.Builtin.firstCells i.size (Nat.min n sl) c2).run P w = .ok un.toArray w) :
    (Go.Builtin.copy_ tys ty #[.slice base sl sc, c2]).run P w = (match base with
      | none => .ok (.int .i64 (Nat.min n sl : Nat)) w
      | some ad => ((Go.storeCells ad un).run P w).andThen fun _ w' => .ok (.int .i64 (Nat.min n sl : Nat)) w') := by
  subst hc2
  simp only [Go.Builtin.copy_, h0, List.getElem?_toArray, List.getElem?_cons_zero, List.getElem?_cons_succ, Sem.run_bind, run_underlying ht, Go.Result.andThen_ok, run_sizeOf hi, Go.Builtin.lenOf, Sem.run_pure, hun]
  cases base with
  | none => rfl
  | some ad => simp [Go.goInt]
theorem mCpy_ok (hT : TabOk P tt ft) (hE : EnR ρ π wr en a) {t e : TypeId} {n : Nat} (ht : isSlice tt t = some e) (hn : tySize tt e = some n)
    {x y : Operand} {x' y' : Opd} (hx : opd wr x = some x') (hy' : opd wr y = some y') {C : Orc} {res : Res} (h : mCpy x' y' n C en bx nb H = some res) {tys : Array TypeId} (h0 : tys[0]? = some t) (ty : TypeId) {w : World} (hP : Pre ρ π H bx nb w A B res) :
    ∃ c w', (Go.Builtin.copy_ tys ty #[a.eval x, a.eval y]).run P w = .ok c w' ∧ Outcome ρ π H bx nb w res c w' := by
  unfold mCpy at h
  split at h
  case h_2 => cases h
  rename_i ax sl sc hvx
  split at h
  case h_2 => cases h
  rename_i ay sl2 sc2 hvy
  have hmin : (bif Nat.ble sl2 sl then sl2 else sl) = Nat.min sl2 sl := by
    rw [ble_dec]
    by_cases h : sl2 ≤ sl
    · simp only [h, decide_true, cond_true]; exact (Nat.min_eq_left h).symm
    · simp only [h, decide_false, cond_false]; exact (Nat.min_eq_right (by omega)).symm
  rw [hmin] at h
  cases hrow : rowOf H ay (Nat.min sl2 sl) n with
  | none => rw [hrow] at h; cases h
  | some new =>
  rw [hrow] at h
  simp only at h
  cases hall : allS new with
  | false => rw [hall] at h; cases h
  | true =>
  rw [hall, cond_true] at h
  obtain ⟨i, hi, hsz⟩ := tySize_ok hT hn
  have vx := opd_okV hE hx hvx
  have vy := opd_okV hE hy' hvy
  obtain ⟨b2, k2, ey, _⟩ := lenOf_sl vy
  have htP := isSlice_ok hT ht
  split at h
  · cases h
    obtain ⟨un, g1, g2, g3⟩ := row_ok (P := P) hrow vy hP.mem (hP.hA _ rfl)
    have := run_cpy (P := P) (ty := ty) htP hi h0 (base := none) (sl := sl) (sc := sc) ey (by rw [hsz]; exact g3 w rfl)
    rw [vx.inv_s0, this]
    exact ⟨_, w, rfl, .inl ⟨_, ρ, rfl, rfl, rfl, HStep.read hP.mem (hP.hA _ rfl) hP.hn ⟨rfl, rfl, rfl⟩, .v (.i _ _), tl_blkOf vy⟩⟩
  · rename_i b o
    obtain ⟨I, cap', hI, hc, e1⟩ := vx.inv_s
    have hfx : res.fx = .hs ((b, true) :: blkOf ay) := by
      unfold stBlk at h
      split at h
      · split at h
        · cases h
        · split at h
          · cases h; rfl
          · cases h
      · cases h
    obtain ⟨un, g1, g2, g3⟩ := row_ok (P := P) hrow vy hP.mem (fun b' I' hI' hb' => hP.hA _ hfx b' I' hI' (tl_mono (fun p hp => List.mem_cons_of_mem _ hp) hb'))
    obtain ⟨w', q1, q2⟩ := stBlk_ok (P := P) h g2 hall hP hI (tl_blkOf vy) (c := .int .i64 (Nat.min sl2 sl : Nat)) (.v (.i _ _))
    have := run_cpy (P := P) (ty := ty) htP hi h0 (base := some ⟨I.blk, I.base + o, none⟩) (sl := sl) (sc := cap') ey (by rw [hsz]; exact g3 w rfl)
    rw [e1, this]
    exact ⟨_, w', by simp only [q1, Go.Result.andThen_ok], q2⟩
end
end Am
