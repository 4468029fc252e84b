/- Part 5 of a proof in many texts, put together: definitions and lemmas. The theorem stands in the last text; no conditions. -/
import Derived.Test.YtmfdjipijifababPart4
import Derived.Carry
import Derived.Deep.Slices
import Derived.IntWalk
import Derived.ProofKit
import Derived.Test.YtmfdjipijifababProg
section
/- The abstract machine, sixteenth part: equations and rules by which functions are reckoned. -/
set_option linter.unusedVariables false
set_option linter.unusedSimpArgs false
namespace Go.Ab

noncomputable def fin (C : Cfg) (rs : List ResultVar) : Option (AExit × St) → Option (AVal × Mem)
  | some (.normal, s) => (resultsA C s rs).map fun vs => (packA vs, s.mem)
  | some (.ret, s) => (resultsA C s rs).map fun vs => (packA vs, s.mem)
  | _ => none

def envOf (args : List AVal) : Nat → AVal := fun i => (args[i]?).getD (.tup [])
@[simp] theorem envOf_zero {a : AVal} {r : List AVal} : envOf (a :: r) 0 = a := rfl
@[simp] theorem envOf_succ {a : AVal} {r : List AVal} {i : Nat} : envOf (a :: r) (i + 1) = envOf r i := by simp [envOf]

def bodyChk (T : Nat → List (Nat × Nat)) (fn : Func) (n : Nat) : Bool :=
  match fn.body with
  | some code => drawsOk T code && (codeOk fn.ntmps code && (decide (n ≤ fn.ntmps) && !(fn.name == "runtime.NumGoroutine")))
  | none => false

def codeOf (fn : Func) : Code := fn.body.getD .skip

theorem cBody_eq {C : Cfg} {call : CallF} {T : Nat → List (Nat × Nat)} {n : Nat} {f : FuncId} {fn : Func} (hf : C.P.funcs[f]? = some fn) {args : List AVal} (hc : bodyChk T fn args.length = true) {rs : List ResultVar} (hr : fn.results.toList = rs) (m : Mem) :
    cBody C call T n f args m = fin C rs (cCode C call T n (codeOf fn) ⟨envOf args, m⟩) := by
  unfold cBody bodyChk codeOf at *
  rw [hf]
  simp only []
  cases hb : fn.body with
  | none => rw [hb] at hc; cases hc
  | some code =>
    simp only [hb, Bool.and_eq_true, decide_eq_true_eq, Bool.not_eq_true'] at hc
    simp only [Option.getD_some]
    rw [if_pos ⟨hc.1, hc.2.1, hc.2.2.1, hc.2.2.2⟩]
    subst hr
    unfold fin
    rfl

/-- A call of a pure function: its arguments are frozen. -/
theorem cCall_pure {C : Cfg} {T : FuncId → Nat → List (Nat × Nat)} {f : FuncId} (hk : C.kind f = .pure) {k : Nat} {args args' : List AVal} {m m1 m2 : Mem} {r r' : AVal}
    (ha : freezeL (freezeV 8) args m = some (args', m1)) (hb : cBody C (cCall C T k) (T f) k f args' C.m0 = some (r, m2)) (hr : ∃ m3, freezeV 8 r m2 = some (r', m3)) :
    cCall C T (k + 1) f args m = some (r', m1) := by
  obtain ⟨m3, hr⟩ := hr
  simp only [cCall, hk, ha, hb, hr]

/-- The rule of loops. -/
theorem aLoop_rule {f : St → Option (AExit × St)} (Inv : Nat → St → Prop) (Post : AExit → St → Prop)
    (step : ∀ j s, Inv j s → (∃ s', f s = some (.normal, s') ∧ 0 < j ∧ Inv (j - 1) s') ∨ (∃ e s', f s = some (e, s') ∧ e ≠ .normal ∧ Post e s')) :
    ∀ (n j : Nat) (s : St), j < n → Inv j s → ∃ e s', aLoop f n s = some (e, s') ∧ e ≠ .normal ∧ Post e s' := by
  intro n
  induction n with
  | zero => intro j s h; omega
  | succ n ih =>
    intro j s hj hi
    simp only [aLoop]
    rcases step j s hi with ⟨s', h1, h2, h3⟩ | ⟨e, s', h1, h2, h3⟩
    · rw [h1]
      exact ih (j - 1) s' (by omega) h3
    · rw [h1]
      refine ⟨e, s', ?_, h2, h3⟩
      cases e <;> first | rfl | exact absurd rfl h2

@[simp] theorem aLoop_zero (f : St → Option (AExit × St)) (s : St) : aLoop f 0 s = none := rfl

/-! More fuel does no harm. -/

theorem aLoop_more {f : St → Option (AExit × St)} : ∀ (n n' : Nat) (s : St) (r : AExit × St), n ≤ n' → aLoop f n s = some r → aLoop f n' s = some r := by
  intro n
  induction n with
  | zero => intro n' s r _ hr; simp [aLoop] at hr
  | succ n ih =>
    intro n' s r hn hr
    obtain ⟨k, rfl⟩ : ∃ k, n' = k + 1 := ⟨n' - 1, by omega⟩
    simp only [aLoop] at hr ⊢
    cases hf : f s with
    | none => simp [hf] at hr
    | some p =>
      obtain ⟨e, s1⟩ := p
      rw [hf] at hr
      cases e with
      | normal => exact ih k _ _ (by omega) hr
      | exit id => exact hr
      | ret => exact hr

theorem cRegion_mono {C : Cfg} {c a : CallF} (hle : Le c a) {ops : Array Oper} {draw : Bool} {l : List (Nat × Nat)} {s t : St} (h : cRegion C c ops draw l s = some t) : cRegion C a ops draw l s = some t := by
  unfold cRegion at h ⊢
  cases draw with
  | false => simp only [Bool.false_eq_true, if_false] at h ⊢; exact aRun_mono hle _ _ _ _ h
  | true =>
    simp only [if_true] at h ⊢
    cases l with
    | nil => exact aRun_mono hle _ _ _ _ h
    | cons p l => exact cRun_mono hle _ _ _ _ _ _ h

theorem cCode_mono {C : Cfg} {c a : CallF} (hle : Le c a) {T : Nat → List (Nat × Nat)} {n n' : Nat} (hn : n ≤ n') : ∀ (code : Code) (s : St) (r : AExit × St), cCode C c T n code s = some r → cCode C a T n' code s = some r := by
  intro code
  induction code with
  | seq x y ihx ihy =>
    intro s r h
    simp only [cCode] at h ⊢
    cases hx : cCode C c T n x s with
    | none => simp [hx] at h
    | some p =>
      obtain ⟨e, s1⟩ := p
      rw [ihx _ _ hx]
      rw [hx] at h
      cases e with
      | normal => exact ihy _ _ h
      | exit id => exact h
      | ret => exact h
  | cond x y z ihy ihz =>
    intro s r h
    simp only [cCode] at h ⊢
    cases hx : opd C s.env x <;> simp only [hx] at h ⊢ <;> try (cases h)
    rename_i b
    cases b with
    | true => exact ihy _ _ (by simpa using h)
    | false => exact ihz _ _ (by simpa using h)
  | block id x ihx =>
    intro s r h
    simp only [cCode] at h ⊢
    cases hx : cCode C c T n x s with
    | none => simp [hx] at h
    | some p =>
      rw [ihx _ _ hx]
      rw [hx] at h
      exact h
  | loop x ihx =>
    intro s r h
    simp only [cCode] at h ⊢
    exact aLoop_more _ _ _ _ hn (aLoop_mono (fun s r hr => ihx s r hr) _ _ _ h)
  | region id ops draw =>
    intro s r h
    simp only [cCode] at h ⊢
    cases hx : cRegion C c ops draw (T id) s with
    | none => simp [hx] at h
    | some t =>
      rw [cRegion_mono hle hx]
      rw [hx] at h
      exact h
  | rangeFunc g ps x y ihx ihy =>
    intro s r h
    simp only [cCode] at h ⊢
    exact rangeF_mono hle (fun s r h => ihx s r h) (fun s r h => ihy s r h) hn h
  | _ => intro s r h; simp only [cCode] at h ⊢; first | exact h | (cases h)

theorem cBody_mono {C : Cfg} {c a : CallF} (hle : Le c a) {T : Nat → List (Nat × Nat)} {n n' : Nat} (hn : n ≤ n') {f : FuncId} {args : List AVal} {m : Mem} {r : AVal × Mem} (h : cBody C c T n f args m = some r) : cBody C a T n' f args m = some r := by
  unfold cBody at h ⊢
  cases hf : C.P.funcs[f]? with
  | none => simp [hf] at h
  | some fn =>
    simp only [hf] at h ⊢
    cases hb : fn.body with
    | none => simp [hb] at h
    | some code =>
      simp only [hb] at h ⊢
      split at h
      · rename_i hc
        rw [if_pos hc]
        cases hx : cCode C c T n code ⟨fun i => (args[i]?).getD (.tup []), m⟩ with
        | none => simp [hx] at h
        | some p =>
          rw [cCode_mono hle hn code _ _ hx]
          rw [hx] at h
          exact h
      · cases h

theorem cCall_mono {C : Cfg} {T : FuncId → Nat → List (Nat × Nat)} : ∀ k k', k ≤ k' → Le (cCall C T k) (cCall C T k') := by
  intro k
  induction k with
  | zero => intro k' _ f args m r h; simp [cCall] at h
  | succ k ih =>
    intro k' hk f args m r h
    obtain ⟨k', rfl⟩ : ∃ j, k' = j + 1 := ⟨k' - 1, by omega⟩
    have hle := ih k' (by omega)
    have hkk : k ≤ k' := by omega
    simp only [cCall] at h ⊢
    cases hkd : C.kind f with
    | plain => simp only [hkd] at h ⊢; exact cBody_mono hle hkk h
    | pure =>
      simp only [hkd] at h ⊢
      split at h
      · rename_i args' m1 hfz
        split at h
        · rename_i r1 m2 hb
          simp only [hfz, cBody_mono hle hkk hb]
          exact h
        · cases h
      · cases h
    | shallow =>
      simp only [hkd] at h ⊢
      split at h
      · rename_i r1 m' hb
        simp only [cBody_mono hle hkk hb]
        exact h
      · cases h
    | reader =>
      simp only [hkd] at h ⊢
      split at h
      · rename_i args' hv
        split at h
        · rename_i r1 m2 hb
          simp only [hv, cBody_mono hle hkk hb]
          exact h
        · cases h
      · cases h
    | ext g =>
      rw [hkd] at h
      exact h

/-- What was there stays as it was. -/
structure Grow (m m' : Mem) : Prop where
  next : m.next ≤ m'.next
  cell : ∀ id, id < m.next → m'.cell id = m.cell id
  mode : ∀ id, id < m.next → m'.mode id = m.mode id
  siz : ∀ id, id < m.next → m'.siz id = m.siz id
  dead : (∀ id, m.next ≤ id → m.mode id = .dead) → ∀ id, m'.next ≤ id → m'.mode id = .dead

theorem Grow.refl (m : Mem) : Grow m m := ⟨Nat.le_refl _, fun _ _ => rfl, fun _ _ => rfl, fun _ _ => rfl, fun h => h⟩
theorem Grow.trans {m m' m'' : Mem} (h : Grow m m') (h' : Grow m' m'') : Grow m m'' :=
  ⟨Nat.le_trans h.next h'.next, fun id hi => (h'.cell id (Nat.lt_of_lt_of_le hi h.next)).trans (h.cell id hi), fun id hi => (h'.mode id (Nat.lt_of_lt_of_le hi h.next)).trans (h.mode id hi),
    fun id hi => (h'.siz id (Nat.lt_of_lt_of_le hi h.next)).trans (h.siz id hi), fun hd => h'.dead (h.dead hd)⟩
theorem Grow.bump (m : Mem) (n : Nat) : Grow m { cell := m.cell, mode := m.mode, siz := m.siz, next := m.next + n } :=
  ⟨Nat.le_add_right _ _, fun _ _ => rfl, fun _ _ => rfl, fun _ _ => rfl, fun h id hid => h id (Nat.le_trans (Nat.le_add_right _ _) hid)⟩

theorem skolem {P : Mem → Prop} {f : Mem → Option (AVal × Mem)} {r : AVal} (h : ∀ m, P m → ∃ m', f m = some (r, m') ∧ Grow m m') : ∃ mm : Mem → Mem, ∀ m, P m → f m = some (r, mm m) ∧ Grow m (mm m) := by
  classical
  refine ⟨fun m => if hm : P m then (h m hm).choose else m, fun m hm => ?_⟩
  simp only [dif_pos hm]
  exact (h m hm).choose_spec

/-! Values. -/

def vi (x : Int) : AVal := .int .i64 x

/-- A slice of things, each of them told by its cells. -/
def SL {α : Type} (enc : α → List AVal) (a : AVal) (l : List α) : Prop :=
  (l = [] ∧ (a = .nils ∨ a = .emp)) ∨ a = .imm l.length (l.flatMap enc)

section
variable {α : Type} {enc : α → List AVal} {a : AVal} {l : List α}

theorem SL.len {P : Program} {t e : TypeId} (hu : P.underlying t = some (.slice e)) (h : SL enc a l) : lenA P t a = some (.int .i64 l.length) := by
  rcases h with ⟨rfl, rfl | rfl⟩ | rfl <;> simp [lenA, hu]

theorem flatMap_drop {sz : Nat} (he : ∀ x, (enc x).length = sz) : ∀ (l : List α) (i : Nat), (l.flatMap enc).drop (i * sz) = (l.drop i).flatMap enc := by
  intro l
  induction l with
  | nil => intro i; simp
  | cons x l ih =>
    intro i
    cases i with
    | zero => simp
    | succ i =>
      rw [List.flatMap_cons, Nat.add_mul, Nat.one_mul, Nat.add_comm, ← List.drop_drop, ← he x, List.drop_left, he x, ih i]
      simp

theorem flatMap_take {sz : Nat} (he : ∀ x, (enc x).length = sz) : ∀ (l : List α) (i : Nat), (l.flatMap enc).take (i * sz) = (l.take i).flatMap enc := by
  intro l
  induction l with
  | nil => intro i; simp
  | cons x l ih =>
    intro i
    cases i with
    | zero => simp
    | succ i =>
      have : (i + 1) * sz = (enc x).length + i * sz := by rw [he x, Nat.add_mul, Nat.one_mul, Nat.add_comm]
      rw [List.flatMap_cons, this, List.take_length_add_append, ih i]
      simp

theorem flatMap_len {sz : Nat} (he : ∀ x, (enc x).length = sz) (l : List α) : (l.flatMap enc).length = l.length * sz := by
  induction l with
  | nil => simp
  | cons x l ih => simp [ih, he, Nat.add_mul, Nat.add_comm]

/-- The address of an element of a slice that is told by value. -/
theorem SL.indexAddr {P : Program} {t e : TypeId} {sz : Nat} (hu : P.underlying t = some (.slice e)) (hs : sizeT P e = some sz) (he : ∀ x, (enc x).length = sz) (h : SL enc a l) {k : IntKind} {i : Nat} (hi : i < l.length) :
    indexAddrA P t a (.int k (i : Int)) = some (.iptr (enc l[i] ++ (l.drop (i + 1)).flatMap enc)) := by
  rcases h with ⟨rfl, _⟩ | rfl
  · simp at hi
  · simp only [indexAddrA, hu, hs]
    rw [if_pos (by omega), Int.toNat_natCast, flatMap_drop he, List.drop_eq_getElem_cons hi, List.flatMap_cons]

theorem SL.append {P : Program} {b : AVal} {l' : List α} {t : TypeId} (h : True) : True := trivial
end

theorem load_iptr_agg {P : Program} {t : TypeId} {m : Mem} {cs r : List AVal} {n : Nat} (ha : isAggT P t = some true) (hs : sizeT P t = some n) (hn : cs.length = n) :
    loadA P t (.iptr (cs ++ r)) m = some (.agg cs) := by
  simp only [loadA, ha, hs]
  rw [if_pos (by simp; omega), List.take_append_of_le_length (by omega), List.take_of_length_le (by omega)]

theorem load_iptr_one {P : Program} {t : TypeId} {m : Mem} {c : AVal} {r : List AVal} {n : Nat} (ha : isAggT P t = some false) (hs : sizeT P t = some n) :
    loadA P t (.iptr (c :: r)) m = some c := by
  simp only [loadA, ha, hs]
  rfl

/-! The runs of a region, shut: the kernel cannot reckon them but by their equations. -/
theorem runS_ex : ∃ f : Cfg → CallF → Array Oper → Nat → List Oper → St → Option St, f = aRun := ⟨aRun, rfl⟩
noncomputable def runS : Cfg → CallF → Array Oper → Nat → List Oper → St → Option St := Classical.choose runS_ex
theorem runS_eq : runS = aRun := Classical.choose_spec runS_ex
theorem stepS_ex : ∃ f : Cfg → CallF → Array Oper → Nat → Oper → St → Option St, f = aStepO := ⟨aStepO, rfl⟩
noncomputable def stepS : Cfg → CallF → Array Oper → Nat → Oper → St → Option St := Classical.choose stepS_ex
theorem stepS_eq : stepS = aStepO := Classical.choose_spec stepS_ex

@[simp] theorem aRun_S {C : Cfg} {call : CallF} {ops : Array Oper} {new : Nat} {r : List Oper} {s : St} : aRun C call ops new r s = runS C call ops new r s := by rw [runS_eq]
@[simp] theorem aStepO_S {C : Cfg} {call : CallF} {ops : Array Oper} {new : Nat} {o : Oper} {s : St} : aStepO C call ops new o s = stepS C call ops new o s := by rw [stepS_eq]
@[simp] theorem runS_nil {C : Cfg} {call : CallF} {ops : Array Oper} {new : Nat} {s : St} : runS C call ops new [] s = some s := by rw [runS_eq, aRun]
@[simp] theorem runS_cons {C : Cfg} {call : CallF} {ops : Array Oper} {new : Nat} {o : Oper} {r : List Oper} {s : St} : runS C call ops new (o :: r) s = (stepS C call ops new o s).bind (runS C call ops (new + 1) r) := by rw [runS_eq, stepS_eq, aRun]
@[simp] theorem stepS_def {C : Cfg} {call : CallF} {ops : Array Oper} {new : Nat} {o : Oper} {s : St} : stepS C call ops new o s = (match wantedA ops s.env o with
  | none => none
  | some false => some ⟨setOpt s.env o.dst (.tup []), s.mem⟩
  | some true => match callOf o with
    | some (f, args) => match opd C s.env f with
      | .fn g first captured => match call g (first ++ args.map (opd C s.env) ++ captured) s.mem with
        | some (v, m) => some ⟨setOpt s.env o.dst v, m⟩
        | none => none
      | _ => none
    | none => match aOp C o s.env s.mem new with
      | some (v, m) => some ⟨setOpt s.env o.dst v, m⟩
      | none => none) := by rw [stepS_eq, aStepO]; rfl

theorem chkS_ex : ∃ f : Cfg → CallF → Array Oper → List (Nat × Nat) → Nat → Nat → List Oper → List Foot → St → Option St, f = cRun := ⟨cRun, rfl⟩
noncomputable def chkS : Cfg → CallF → Array Oper → List (Nat × Nat) → Nat → Nat → List Oper → List Foot → St → Option St := Classical.choose chkS_ex
theorem chkS_eq : chkS = cRun := Classical.choose_spec chkS_ex
@[simp] theorem cRun_S {C : Cfg} {call : CallF} {ops : Array Oper} {l : List (Nat × Nat)} {new i : Nat} {r : List Oper} {fs : List Foot} {s : St} : cRun C call ops l new i r fs s = chkS C call ops l new i r fs s := by rw [chkS_eq]
@[simp] theorem chkS_nil {C : Cfg} {call : CallF} {ops : Array Oper} {l : List (Nat × Nat)} {new i : Nat} {fs : List Foot} {s : St} : chkS C call ops l new i [] fs s = some s := by rw [chkS_eq, cRun]
open Classical in
@[simp] theorem chkS_cons {C : Cfg} {call : CallF} {ops : Array Oper} {l : List (Nat × Nat)} {new i : Nat} {o : Oper} {r : List Oper} {fs : List Foot} {s : St} : chkS C call ops l new i (o :: r) fs s = (if clear C.ng i fs (foot C ops o s new) l then
      (stepS C call ops new o s).bind (chkS C call ops l (new + 1) (i + 1) r (fs ++ [if l.any (·.1 == i) then foot C ops o s new else .all]))
    else none) := by rw [chkS_eq, stepS_eq, cRun]
attribute [simp] clear foot footOp callFoot Foot.apart loadN inertB

section
variable {C : Cfg} {call : CallF} {T : Nat → List (Nat × Nat)} {n : Nat} {s : St}
@[simp] theorem cc_skip : cCode C call T n .skip s = some (.normal, s) := rfl
@[simp] theorem cc_seq {a b : Code} : cCode C call T n (.seq a b) s = (match cCode C call T n a s with
    | some (.normal, s1) => cCode C call T n b s1
    | r => r) := by rw [cCode] <;> rfl
@[simp] theorem cc_cond {c : Operand} {a b : Code} : cCode C call T n (.cond c a b) s = (match opd C s.env c with
    | .bool t => if t then cCode C call T n a s else cCode C call T n b s
    | _ => none) := by rw [cCode] <;> rfl
@[simp] theorem cc_block {id : Nat} {c : Code} : cCode C call T n (.block id c) s = (match cCode C call T n c s with
    | some (.exit id', s1) => if id' = id then some (.normal, s1) else some (.exit id', s1)
    | r => r) := by rw [cCode] <;> rfl
@[simp] theorem cc_exit {id : Nat} : cCode C call T n (.exit id) s = some (.exit id, s) := rfl
@[simp] theorem cc_ret : cCode C call T n .ret s = some (.ret, s) := rfl
@[simp] theorem cc_region {id : Nat} {ops : Array Oper} {draw : Bool} : cCode C call T n (.region id ops draw) s = (cRegion C call ops draw (T id) s).map fun s1 => (.normal, s1) := by rw [cCode]

/-- What a round of a loop must come to. -/
def Round (Inv : Nat → St → Prop) (Post : AExit → St → Prop) (j : Nat) : AExit × St → Prop
  | (.normal, s) => 0 < j ∧ Inv (j - 1) s
  | (e, s) => Post e s

theorem loop_rule {c : Code} {r : Option (AExit × St)} (hl : cCode C call T n (.loop c) s = r) (Inv : Nat → St → Prop) (Post : AExit → St → Prop) (j : Nat) (hj : j < n) (hi : Inv j s)
    (step : ∀ j s, Inv j s → ∃ p, cCode C call T n c s = some p ∧ Round Inv Post j p) :
    ∃ e s', r = some (e, s') ∧ e ≠ .normal ∧ Post e s' := by
  rw [cCode] at hl
  obtain ⟨e, s', h1, h2, h3⟩ := aLoop_rule Inv Post (fun j s h => by
    obtain ⟨⟨e, s'⟩, h1, h2⟩ := step j s h
    cases e with
    | normal => exact .inl ⟨s', h1, h2⟩
    | exit id => exact .inr ⟨_, s', h1, by simp, h2⟩
    | ret => exact .inr ⟨_, s', h1, by simp, h2⟩) n j s hj hi
  exact ⟨e, s', hl.symm.trans h1, h2, h3⟩

def fzd : Option (AVal × Mem) → Option AVal
  | some (r, m) => (freezeV 8 r m).map (·.1)
  | none => none

/-- A call of a pure function, for all contexts. -/
theorem pure_call {C : Cfg} {T : FuncId → Nat → List (Nat × Nat)} {f : FuncId} (hk : C.kind f = .pure) {k : Nat} {args args' : List AVal} {m m1 : Mem} {r : AVal} (K : Nat) (hK : K + 1 ≤ k)
    (ha : freezeL (freezeV 8) args m = some (args', m1)) (hb : ∀ k, K ≤ k → fzd (cBody C (cCall C T k) (T f) k f args' C.m0) = some r) :
    cCall C T k f args m = some (r, m1) := by
  obtain ⟨k, rfl⟩ : ∃ j, k = j + 1 := ⟨k - 1, by omega⟩
  have h := hb k (by omega)
  cases hc : cBody C (cCall C T k) (T f) k f args' C.m0 with
  | none => rw [hc] at h; cases h
  | some p =>
    obtain ⟨r0, m2⟩ := p
    rw [hc] at h
    cases hz : freezeV 8 r0 m2 with
    | none => simp [fzd, hz] at h
    | some q =>
      obtain ⟨r1, m3⟩ := q
      simp only [fzd, hz, Option.map_some, Option.some.injEq] at h
      subst h
      exact cCall_pure hk ha hc ⟨m3, hz⟩

section
variable {d : Nat} {m : Mem}
@[simp] theorem fz_int {k : IntKind} {x : Int} : freezeV (d + 1) (.int k x) m = some (.int k x, m) := rfl
@[simp] theorem fz_bool {b : Bool} : freezeV (d + 1) (.bool b) m = some (.bool b, m) := rfl
@[simp] theorem fz_str {s : ByteArray} : freezeV (d + 1) (.str s) m = some (.str s, m) := rfl
@[simp] theorem fz_nils : freezeV (d + 1) .nils m = some (.nils, m) := rfl
@[simp] theorem fz_nilp : freezeV (d + 1) .nilp m = some (.nilp, m) := rfl
@[simp] theorem fz_emp : freezeV (d + 1) .emp m = some (.emp, m) := rfl
@[simp] theorem fz_imm {n : Nat} {cs : List AVal} : freezeV (d + 1) (.imm n cs) m = some (.imm n cs, m) := rfl
@[simp] theorem fz_fn {f : FuncId} : freezeV (d + 1) (.fn f [] []) m = some (.fn f [] [], m) := rfl
@[simp] theorem fz_agg {cs : List AVal} : freezeV (d + 1) (.agg cs) m = (match freezeL (freezeV d) cs m with
      | some (cs', m2) => some (.agg cs', m2)
      | none => none) := by rw [freezeV]; rfl
@[simp] theorem fz_tup {cs : List AVal} : freezeV (d + 1) (.tup cs) m = (match freezeL (freezeV d) cs m with
      | some (cs', m2) => some (.tup cs', m2)
      | none => none) := by rw [freezeV]; rfl
end

end

/-- A pure function, reckoned once with so much fuel. -/
theorem pure_conc {C : Cfg} {T : FuncId → Nat → List (Nat × Nat)} {f : FuncId} (hk : C.kind f = .pure) (K : Nat) {k : Nat} {args args' : List AVal} {m m1 : Mem} {r : AVal} (hK : K + 1 ≤ k)
    (ha : freezeL (freezeV 8) args m = some (args', m1)) (hb : fzd (cBody C (cCall C T K) (T f) K f args' C.m0) = some r) : cCall C T k f args m = some (r, m1) :=
  cCall_mono _ _ hK _ _ _ _ (pure_call (K := K) hk (Nat.le_refl _) ha (fun k hk' => by
    cases hc : cBody C (cCall C T K) (T f) K f args' C.m0 with
    | none => rw [hc] at hb; cases hb
    | some p => rw [cBody_mono (cCall_mono _ _ hk') hk' hc]; rw [hc] at hb; exact hb))

@[simp] theorem load_ptr {P : Program} {t : TypeId} {m : Mem} {id off : Nat} : loadA P t (.ptr id off) m = (match isAggT P t, sizeT P t with
    | some true, some n => if m.mode id = .dead then none else (cellsAt m id off n).map .agg
    | some false, some _ => if m.mode id = .dead then none else m.cell id off
    | _, _ => none) := by
  unfold loadA
  cases isAggT P t with
  | none => rfl
  | some b => cases b <;> cases sizeT P t <;> rfl
@[simp] theorem m0_next {C : Cfg} : C.m0.next = C.ng := rfl
@[simp] theorem m0_mode {C : Cfg} {i : Nat} : C.m0.mode i = if i < C.ng ∧ C.glob i ≠ [] then .ro else .dead := rfl
@[simp] theorem m0_cell {C : Cfg} {i o : Nat} : C.m0.cell i o = if i < C.ng then (C.glob i)[o]? else none := rfl
@[simp] theorem m0_siz {C : Cfg} {i : Nat} : C.m0.siz i = (C.glob i).length := rfl

attribute [simp] storeA allocA boxA newBlk writeCells cellsAt buildA fillA placesA partsA setRange fieldAddrA fieldA partA AVal.whole AVal.cells AVal.one
attribute [simp] Nat.add_assoc Round freezeL fzd cRegion wantedA callOf aOp opd setOpt upd reserve AVal.ofValue AVal.ofCell binA binInt resultsA resultA packA fin builtinA extractA
end Go.Ab
end
section
/- The abstract machine, seventeenth part: slices that grow. -/
set_option linter.unusedVariables false
set_option linter.unusedSimpArgs false
namespace Go.Ab

theorem cellsAt_of {m : Mem} {id : Nat} : ∀ (cs : List AVal) (off : Nat), (∀ o, o < cs.length → m.cell id (off + o) = cs[o]?) → cellsAt m id off cs.length = some cs := by
  intro cs
  induction cs with
  | nil => intro off _; rfl
  | cons c cs ih =>
    intro off h
    have h0 := h 0 (by simp)
    have hr := ih (off + 1) (fun o ho => by
      have := h (o + 1) (by simp; omega)
      rw [show off + 1 + o = off + (o + 1) by omega, this]
      simp)
    simp only [List.length_cons, cellsAt]
    rw [show m.cell id off = some c by simpa using h0, hr]

/-- A slice that grows: nothing yet, or all of a block of its own. -/
def App {α : Type} (enc : α → List AVal) (sz : Nat) (s : AVal) (l : List α) (lo : Nat) (m : Mem) : Prop :=
  (l = [] ∧ s = .nils) ∨ ∃ id, s = .own id 0 l.length sz ∧ lo ≤ id ∧ id < m.next ∧ m.mode id = .rw ∧ m.siz id = l.length * sz ∧ ∀ o, o < l.length * sz → m.cell id o = (l.flatMap enc)[o]?

section
variable {α : Type} {enc : α → List AVal} {sz lo : Nat} {s : AVal} {l : List α} {m : Mem}

theorem App.grow {m' : Mem} (h : App enc sz s l lo m) (g : Grow m m') : App enc sz s l lo m' := by
  rcases h with h | ⟨id, h1, h2, h3, h4, h5, h6⟩
  · exact .inl h
  · exact .inr ⟨id, h1, h2, Nat.lt_of_lt_of_le h3 g.next, (g.mode id h3).trans h4, (g.siz id h3).trans h5, fun o ho => by rw [g.cell id h3]; exact h6 o ho⟩

theorem freezeL_same {fr : AVal → Mem → Option (AVal × Mem)} : ∀ (cs : List AVal) (m : Mem), (∀ a ∈ cs, ∀ m, fr a m = some (a, m)) → freezeL fr cs m = some (cs, m) := by
  intro cs
  induction cs with
  | nil => intro m _; rfl
  | cons c cs ih =>
    intro m h
    simp only [freezeL, h c (by simp), ih m (fun a ha => h a (by simp [ha]))]

/-- A grown slice, made immutable. -/
theorem App.freeze (he : ∀ x, (enc x).length = sz) (hin : ∀ x ∈ l, ∀ a ∈ enc x, ∀ m, freezeV 7 a m = some (a, m)) (h : App enc sz s l lo m) :
    ∃ a' m', freezeV 8 s m = some (a', m') ∧ SL enc a' l ∧ ∀ m, freezeV 8 a' m = some (a', m) := by
  rcases h with ⟨rfl, rfl⟩ | ⟨id, rfl, h2, h3, h4, h5, h6⟩
  · exact ⟨.nils, m, rfl, .inl ⟨rfl, .inl rfl⟩, fun m => rfl⟩
  · have hfl := flatMap_len he l
    have holds : cellsAt m id 0 (l.length * sz) = some (l.flatMap enc) := by
      have := cellsAt_of (m := m) (id := id) (l.flatMap enc) 0 (fun o ho => by rw [Nat.zero_add]; exact h6 o (by rw [hfl] at ho; exact ho))
      rwa [hfl] at this
    refine ⟨.imm l.length (l.flatMap enc), { m with mode := upd m.mode id .ro }, ?_, .inr rfl, fun m => rfl⟩
    simp only [freezeV, h4, holds]
    rw [if_neg (by simp), freezeL_same _ _ (fun a ha m => ?_)]
    obtain ⟨x, hx, hax⟩ := List.mem_flatMap.1 ha
    exact hin x hx a hax m

theorem App.append {P : Program} {t e : TypeId} {i : TypeInfo} {z : List AVal} (he : ∀ x, (enc x).length = sz) (hu : P.underlying t = some (.slice e)) (hi : P.info? e = some i) (hs : i.size = sz) (hb : i.bytes ≤ 100000) (hz : zeroA P e = some z) (hzl : z.length = sz) (hpos : 0 < sz)
    (h : App enc sz s l lo m) {xid new : Nat} {v : α} (hx : m.mode xid ≠ .dead) (hxc : ∀ o, o < sz → m.cell xid o = (enc v)[o]?) (hlo : lo ≤ new) (hd : m.mode new = .dead) (hn : new < m.next) (hl : l.length < 2 ^ 20) :
    ∃ m', appendA P t t s (.own xid 0 1 sz) m new = some (.own new 0 (l.length + 1) sz, m') ∧ App enc sz (.own new 0 (l.length + 1) sz) (l ++ [v]) lo m' ∧ m'.next = m.next ∧
      (∀ id, id < lo → m'.cell id = m.cell id ∧ m'.mode id = m.mode id ∧ m'.siz id = m.siz id) ∧ (∀ id, id ≠ new → m.mode id = .dead → m'.mode id = .dead) := by
  have hel : elemsA i.size (.own xid 0 1 sz) m = some (1, enc v) := by
    have := cellsAt_of (m := m) (id := xid) (enc v) 0 (fun o ho => by rw [Nat.zero_add]; exact hxc o (by rw [he] at ho; exact ho))
    rw [he] at this
    simp [elemsA, hs, hx, this]
  rcases h with ⟨rfl, rfl⟩ | ⟨id, rfl, h2, h3, h4, h5, h6⟩
  · refine ⟨newBlk m new (enc v), ?_, .inr ⟨new, rfl, hlo, hn, by simp [newBlk, upd], by simp [newBlk, upd, he], fun o ho => by simp [newBlk]⟩, rfl, fun id hid => ?_, fun id hid hdd => ?_⟩
    · unfold appendA
      simp only [hu, hi, hz, hel]
      rw [if_pos ⟨by rw [hzl, hs], by omega, hd⟩, if_neg (by omega), if_pos ⟨by omega, by unfold maxLen; omega⟩, hs]
      rfl
    · have : ¬ id = new := by omega
      simp [newBlk, upd, this]
    · simp [newBlk, upd, hid, hdd]
  · have hne : id ≠ new := fun e => by rw [e, hd] at h4; cases h4
    have hfl := flatMap_len he l
    have holds : cellsAt m id 0 (l.length * sz) = some (l.flatMap enc) := by
      have := cellsAt_of (m := m) (id := id) (l.flatMap enc) 0 (fun o ho => by rw [Nat.zero_add]; exact h6 o (by rw [hfl] at ho; exact ho))
      rwa [hfl] at this
    refine ⟨{ newBlk m new (l.flatMap enc ++ enc v) with mode := upd (upd m.mode id .dead) new .rw }, ?_, .inr ⟨new, by simp, hlo, hn, by simp [upd], by simp [newBlk, upd, hfl, he, Nat.add_mul], fun o ho => by simp [newBlk]⟩, rfl, fun id' hid => ?_, fun id' hid hdd => ?_⟩
    · unfold appendA
      simp only [hu, hi, hz, hel]
      have hbb : (l.length + 1) * i.bytes ≤ 140737488355328 := Nat.le_trans (Nat.mul_le_mul (Nat.succ_le_of_lt hl) hb) (by decide)
      rw [if_pos ⟨by rw [hzl, hs], by omega, hd⟩, if_pos ⟨hs.symm, h4, hne, by rw [h5]; omega, hbb, by unfold maxLen; omega⟩, holds]
    · have h7 : ¬ id' = new := by omega
      have h8 : ¬ id' = id := by omega
      simp [newBlk, upd, h7, h8]
    · by_cases h9 : id' = id
      · simp [upd, hid, h9, hne]
      · simp [upd, hid, h9, hdd]
end
end Go.Ab
end
section
/- The abstract machine, eighteenth part: one more element behind a slice that grows. -/
set_option linter.unusedVariables false
set_option linter.unusedSimpArgs false
namespace Go.Ab

/-- Nothing is laid yet beyond what is told. -/
def Fresh (m : Mem) : Prop := ∀ i, m.next ≤ i → m.mode i = .dead

/-- A block was laid, and nothing else was changed. -/
structure Lay (M : Mem) (p q : Nat) (cs : List AVal) (M2 : Mem) : Prop where
  next : M2.next = M.next + q
  low : ∀ id, id < M.next → M2.cell id = M.cell id ∧ M2.mode id = M.mode id ∧ M2.siz id = M.siz id
  dead : ∀ id, M.next ≤ id → id ≠ M.next + p → M2.mode id = M.mode id
  live : M2.mode (M.next + p) ≠ .dead
  cell : ∀ o, o < cs.length → M2.cell (M.next + p) o = cs[o]?

theorem Lay.put (m : Mem) (cs ds : List AVal) (p q n k : Nat) (hn : cs.length ≤ n) (hpq : p < q) : Lay m p q cs { cell := fun i o => if i = m.next + p ∧ o < n then cs[o]? else if i = m.next + p then ds[o]? else m.cell i o, mode := upd m.mode (m.next + p) .rw, siz := upd m.siz (m.next + p) k, next := m.next + q } := by
  refine ⟨rfl, fun id h => ?_, fun id h h2 => if_neg h2, by simp, fun o ho => ?_⟩
  · have : ¬ id = m.next + p := by omega
    simp [upd, this]
  · simp only []
    rw [if_pos ⟨trivial, by omega⟩]

theorem Lay.alloc (m : Mem) (cs : List AVal) (p q k : Nat) (hpq : p < q) : Lay m p q cs { cell := fun i o => if i = m.next + p then cs[o]? else m.cell i o, mode := upd m.mode (m.next + p) .rw, siz := upd m.siz (m.next + p) k, next := m.next + q } := by
  refine ⟨rfl, fun id h => ?_, fun id h h2 => if_neg h2, by simp, fun o ho => by simp⟩
  have : ¬ id = m.next + p := by omega
  simp [upd, this]

theorem Lay.grow {M M2 : Mem} {p q : Nat} {cs : List AVal} (h : Lay M p q cs M2) (hpq : p < q) : Grow M M2 :=
  ⟨by rw [h.next]; omega, fun id hi => (h.low id hi).1, fun id hi => (h.low id hi).2.1, fun id hi => (h.low id hi).2.2, fun hd id hi => by
    have := h.next
    rw [h.dead id (by omega) (by omega)]
    exact hd id (by omega)⟩

section
variable {α : Type} {enc : α → List AVal} {sz lo : Nat} {s : AVal} {l : List α} {m : Mem}

/-- Where a grown slice lies, nothing has changed. -/
theorem App.same {m' : Mem} (h : App enc sz s l lo m) (hn : m.next ≤ m'.next) (hs : ∀ id n, s = .own id 0 n sz → id < m.next → lo ≤ id → m'.cell id = m.cell id ∧ m'.mode id = m.mode id ∧ m'.siz id = m.siz id) : App enc sz s l lo m' := by
  rcases h with h | ⟨id, h1, h2, h3, h4, h5, h6⟩
  · exact .inl h
  · obtain ⟨g1, g2, g3⟩ := hs id _ h1 h3 h2
    exact .inr ⟨id, h1, h2, Nat.lt_of_lt_of_le h3 hn, g2.trans h4, g3.trans h5, fun o ho => by rw [g1]; exact h6 o ho⟩

theorem App.lenA {P : Program} {t e : TypeId} (hu : P.underlying t = some (.slice e)) (h : App enc sz s l lo m) : lenA P t s = some (.int .i64 l.length) := by
  rcases h with ⟨rfl, rfl⟩ | ⟨id, rfl, _⟩ <;> simp [Go.Ab.lenA, hu]

theorem App.nil : App enc sz .nils [] lo m := .inl ⟨rfl, rfl⟩

/-- An element of a grown slice. -/
theorem App.get (he : ∀ x, (enc x).length = sz) (h : App enc sz s l lo m) {i : Nat} (hi : i < l.length) :
    ∃ id, s = .own id 0 l.length sz ∧ lo ≤ id ∧ id < m.next ∧ m.mode id = .rw ∧ ∀ o, o < sz → m.cell id (i * sz + o) = (enc l[i])[o]? := by
  rcases h with ⟨rfl, _⟩ | ⟨id, h1, h2, h3, h4, h5, h6⟩
  · simp at hi
  · refine ⟨id, h1, h2, h3, h4, fun o ho => ?_⟩
    have hle : (i + 1) * sz ≤ l.length * sz := Nat.mul_le_mul_right _ hi
    rw [Nat.add_mul] at hle
    rw [h6 _ (by omega), ← List.getElem?_drop, flatMap_drop he, List.drop_eq_getElem_cons hi, List.flatMap_cons, List.getElem?_append_left (by rw [he]; exact ho)]

theorem App.push {P : Program} {t e : TypeId} {i : TypeInfo} {z : List AVal} (he : ∀ x, (enc x).length = sz) (hu : P.underlying t = some (.slice e)) (hi : P.info? e = some i) (hs : i.size = sz) (hb : i.bytes ≤ 100000) (hz : zeroA P e = some z) (hzl : z.length = sz) (hpos : 0 < sz)
    (h : App enc sz s l lo m) (hf : Fresh m) (hlo : lo ≤ m.next) (hl : l.length < 2 ^ 20) {p q : Nat} {v : α} {M2 : Mem} (hL : Lay m p q (enc v) M2) (hpq : p + 1 < q) :
    ∃ m', appendA P t t s (.own (m.next + p) 0 1 sz) M2 (m.next + (p + 1)) = some (.own (m.next + (p + 1)) 0 (l.length + 1) sz, m') ∧ App enc sz (.own (m.next + (p + 1)) 0 (l.length + 1) sz) (l ++ [v]) lo m' ∧ m'.next = m.next + q ∧
      Fresh m' ∧ (∀ id, id < m.next → (∀ n, s ≠ .own id 0 n sz) → m'.cell id = m.cell id ∧ m'.mode id = m.mode id ∧ m'.siz id = m.siz id) := by
  have hL1 := hL.next
  have hd : M2.mode (m.next + (p + 1)) = .dead := by rw [hL.dead _ (by omega) (by omega)]; exact hf _ (by omega)
  have hel : elemsA i.size (.own (m.next + p) 0 1 sz) M2 = some (1, enc v) := by
    have := cellsAt_of (m := M2) (id := m.next + p) (enc v) 0 (fun o ho => by rw [Nat.zero_add]; exact hL.cell o ho)
    rw [he] at this
    simp [elemsA, hs, hL.live, this]
  have hfr : ∀ id, m.next + q ≤ id → M2.mode id = .dead := fun id h => by rw [hL.dead id (by omega) (by omega)]; exact hf _ (by omega)
  rcases h with ⟨rfl, rfl⟩ | ⟨id, rfl, h2, h3, h4, h5, h6⟩
  · refine ⟨newBlk M2 (m.next + (p + 1)) (enc v), ?_, .inr ⟨m.next + (p + 1), rfl, by omega, by show m.next + (p + 1) < M2.next; omega, by simp [newBlk, upd], by simp [newBlk, upd, he], fun o ho => by simp [newBlk]⟩, hL1, fun id hid => ?_, fun id hid _ => ?_⟩
    · unfold appendA
      simp only [hu, hi, hz, hel]
      rw [if_pos ⟨by rw [hzl, hs], by omega, hd⟩, if_neg (by omega), if_pos ⟨by omega, by unfold maxLen; omega⟩, hs]
      rfl
    · have h1 : M2.next ≤ id := hid
      have h2 : ¬ id = m.next + (p + 1) := by omega
      show upd M2.mode (m.next + (p + 1)) Md.rw id = .dead
      rw [upd, if_neg h2]
      exact hfr id (by omega)
    · have h2 : ¬ id = m.next + (p + 1) := by omega
      have h3 := hL.low id hid
      simp [newBlk, upd, h2, h3.1, h3.2.1, h3.2.2]
  · have hlow := hL.low id h3
    have hne : id ≠ m.next + (p + 1) := by omega
    have hfl := flatMap_len he l
    have holds : cellsAt M2 id 0 (l.length * sz) = some (l.flatMap enc) := by
      have := cellsAt_of (m := M2) (id := id) (l.flatMap enc) 0 (fun o ho => by rw [Nat.zero_add, hlow.1]; exact h6 o (by rw [hfl] at ho; exact ho))
      rwa [hfl] at this
    refine ⟨{ newBlk M2 (m.next + (p + 1)) (l.flatMap enc ++ enc v) with mode := upd (upd M2.mode id .dead) (m.next + (p + 1)) .rw }, ?_, .inr ⟨m.next + (p + 1), by simp, by omega, by show m.next + (p + 1) < M2.next; omega, by simp [upd], by simp [newBlk, upd, hfl, he, Nat.add_mul], fun o ho => by simp [newBlk]⟩, hL1, fun id' hid => ?_, fun id' hid hne' => ?_⟩
    · unfold appendA
      simp only [hu, hi, hz, hel]
      have hbb : (l.length + 1) * i.bytes ≤ 140737488355328 := Nat.le_trans (Nat.mul_le_mul (Nat.succ_le_of_lt hl) hb) (by decide)
      rw [if_pos ⟨by rw [hzl, hs], by omega, hd⟩, if_pos ⟨hs.symm, hlow.2.1.trans h4, hne, by rw [hlow.2.2, h5]; omega, hbb, by unfold maxLen; omega⟩, holds]
    · have h1 : M2.next ≤ id' := hid
      have h2 : ¬ id' = m.next + (p + 1) := by omega
      have h3 : ¬ id' = id := by omega
      show upd (upd M2.mode id .dead) (m.next + (p + 1)) Md.rw id' = .dead
      rw [upd, if_neg h2, upd, if_neg h3]
      exact hfr id' (by omega)
    · have h7 : ¬ id' = m.next + (p + 1) := by omega
      have h8 : ¬ id' = id := fun e => hne' _ (by rw [e])
      have h9 := hL.low id' hid
      refine ⟨?_, ?_, ?_⟩
      · funext o
        simp [newBlk, h7, h9.1]
      · simp [upd, h7, h8, h9.2.1]
      · simp [newBlk, upd, h7, h9.2.2]

/-- One more element, behind whatever was done before. -/
theorem App.more {P : Program} {t e : TypeId} {i : TypeInfo} {z : List AVal} (he : ∀ x, (enc x).length = sz) (hu : P.underlying t = some (.slice e)) (hi : P.info? e = some i) (hs : i.size = sz) (hb : i.bytes ≤ 100000) (hz : zeroA P e = some z) (hzl : z.length = sz) (hpos : 0 < sz)
    (h : App enc sz s l lo m) {xid new : Nat} {v : α} (hx : m.mode xid ≠ .dead) (hxc : ∀ o, o < sz → m.cell xid o = (enc v)[o]?) (hlo : lo ≤ new) (hd : m.mode new = .dead) (hn : new < m.next) (hl : l.length < 2 ^ 20) :
    ∃ m', appendA P t t s (.own xid 0 1 sz) m new = some (.own new 0 (l.length + 1) sz, m') ∧ App enc sz (.own new 0 (l.length + 1) sz) (l ++ [v]) lo m' ∧ m'.next = m.next ∧
      (∀ id, id ≠ new → (∀ n, s ≠ .own id 0 n sz) → m'.cell id = m.cell id ∧ m'.mode id = m.mode id ∧ m'.siz id = m.siz id) ∧ (∀ id, id ≠ new → m.mode id = .dead → m'.mode id = .dead) := by
  have hel : elemsA i.size (.own xid 0 1 sz) m = some (1, enc v) := by
    have := cellsAt_of (m := m) (id := xid) (enc v) 0 (fun o ho => by rw [Nat.zero_add]; exact hxc o (by rw [he] at ho; exact ho))
    rw [he] at this
    simp [elemsA, hs, hx, this]
  rcases h with ⟨rfl, rfl⟩ | ⟨id, rfl, h2, h3, h4, h5, h6⟩
  · refine ⟨newBlk m new (enc v), ?_, .inr ⟨new, rfl, hlo, hn, by simp [newBlk, upd], by simp [newBlk, upd, he], fun o ho => by simp [newBlk]⟩, rfl, fun id hid _ => ?_, fun id hid hdd => ?_⟩
    · unfold appendA
      simp only [hu, hi, hz, hel]
      rw [if_pos ⟨by rw [hzl, hs], by omega, hd⟩, if_neg (by omega), if_pos ⟨by omega, by unfold maxLen; omega⟩, hs]
      rfl
    · simp [newBlk, upd, hid]
    · simp [newBlk, upd, hid, hdd]
  · have hne : id ≠ new := fun e => by rw [e, hd] at h4; cases h4
    have hfl := flatMap_len he l
    have holds : cellsAt m id 0 (l.length * sz) = some (l.flatMap enc) := by
      have := cellsAt_of (m := m) (id := id) (l.flatMap enc) 0 (fun o ho => by rw [Nat.zero_add]; exact h6 o (by rw [hfl] at ho; exact ho))
      rwa [hfl] at this
    refine ⟨{ newBlk m new (l.flatMap enc ++ enc v) with mode := upd (upd m.mode id .dead) new .rw }, ?_, .inr ⟨new, by simp, hlo, hn, by simp [upd], by simp [newBlk, upd, hfl, he, Nat.add_mul], fun o ho => by simp [newBlk]⟩, rfl, fun id' hid hne' => ?_, fun id' hid hdd => ?_⟩
    · unfold appendA
      simp only [hu, hi, hz, hel]
      have hbb : (l.length + 1) * i.bytes ≤ 140737488355328 := Nat.le_trans (Nat.mul_le_mul (Nat.succ_le_of_lt hl) hb) (by decide)
      rw [if_pos ⟨by rw [hzl, hs], by omega, hd⟩, if_pos ⟨hs.symm, h4, hne, by rw [h5]; omega, hbb, by unfold maxLen; omega⟩, holds]
    · have h8 : ¬ id' = id := fun e => hne' _ (by rw [e])
      refine ⟨?_, ?_, ?_⟩
      · funext o
        simp [newBlk, hid]
      · simp [upd, hid, h8]
      · simp [newBlk, upd, hid]
    · by_cases h9 : id' = id
      · simp [upd, hid, h9, hne]
      · simp [upd, hid, h9, hdd]

/-- A memory whose cells are the same, and in which all that was alive is alive. -/
def Alive (m m2 : Mem) : Prop := m2.cell = m.cell ∧ ∀ id, m.mode id ≠ .dead → m2.mode id ≠ .dead
theorem Alive.refl (m : Mem) : Alive m m := ⟨rfl, fun _ h => h⟩
theorem Alive.ro {m m2 : Mem} (h : Alive m m2) (id : Nat) : Alive m { m2 with mode := upd m2.mode id .ro } :=
  ⟨h.1, fun i hi => by
    show upd m2.mode id Md.ro i ≠ .dead
    unfold upd
    split
    · exact (by simp)
    · exact h.2 i hi⟩

theorem App.frozen (d : Nat) (he : ∀ x, (enc x).length = sz) (hin : ∀ x ∈ l, ∀ a ∈ enc x, ∀ m, freezeV (d + 1) a m = some (a, m)) (h : App enc sz s l lo m) {m2 : Mem} (ha : Alive m m2) :
    ∃ a' m', freezeV (d + 2) s m2 = some (a', m') ∧ SL enc a' l ∧ Alive m m' ∧ ∀ e m, freezeV (e + 1) a' m = some (a', m) := by
  rcases h with ⟨rfl, rfl⟩ | ⟨id, rfl, h2, h3, h4, h5, h6⟩
  · exact ⟨.nils, m2, rfl, .inl ⟨rfl, .inl rfl⟩, ha, fun e m => rfl⟩
  · have hfl := flatMap_len he l
    have holds : cellsAt m2 id 0 (l.length * sz) = some (l.flatMap enc) := by
      have := cellsAt_of (m := m2) (id := id) (l.flatMap enc) 0 (fun o ho => by rw [Nat.zero_add, ha.1]; exact h6 o (by rw [hfl] at ho; exact ho))
      rwa [hfl] at this
    refine ⟨.imm l.length (l.flatMap enc), { m2 with mode := upd m2.mode id .ro }, ?_, .inr rfl, ha.ro id, fun e m => rfl⟩
    simp only [freezeV]
    rw [if_neg (ha.2 id (by rw [h4]; simp)), holds]
    simp only []
    rw [freezeL_same _ _ (fun a hm m => ?_)]
    obtain ⟨x, hx, hax⟩ := List.mem_flatMap.1 hm
    exact hin x hx a hax m
end
end Go.Ab
end
section
/- The abstract machine, nineteenth part: how ranges over functions are reckoned. -/
set_option linter.unusedVariables false
set_option linter.unusedSimpArgs false
namespace Go.Ab

noncomputable def yStepO (C : Cfg) (call : CallF) (yh : YF) (ops : Array Oper) (new : Nat) (o : Oper) (x : YS) : Option YS :=
  match wantedA ops x.st.env o with
    | none => none
    | some false => (aStepO C call ops new o x.st).map fun s => ⟨s, yLess x.y o.dst, x.p⟩
    | some true => match yCallee x.y o with
      | some args => match x.p with
        | none => match yh (args.map (opd C x.st.env)) x.st.mem with
          | some (b, m, p) => some ⟨⟨setOpt x.st.env o.dst (.bool b), m⟩, yLess x.y o.dst, p⟩
          | none => none
        | some _ => none
      | none => (aStepO C call ops new o x.st).map fun s => ⟨s, if yMoved x.y o then (match o.dst with
          | some d => d :: yLess x.y o.dst
          | none => x.y) else yLess x.y o.dst, x.p⟩

theorem yStep_eq {C : Cfg} {call : CallF} {yh : YF} {ops : Array Oper} {base i : Nat} {x : YS} {o : Oper} (h : ops[i]? = some o) : yStep C call yh ops base i x = yStepO C call yh ops (base + i) o x := by
  unfold yStep yStepO
  rw [h]
  simp only [aStep_eq h]
  rfl

noncomputable def yRun (C : Cfg) (call : CallF) (yh : YF) (ops : Array Oper) : Nat → List Oper → YS → Option YS
  | _, [], x => some x
  | new, o :: r, x => (yStepO C call yh ops new o x).bind (yRun C call yh ops (new + 1) r)

theorem yOps_range {C : Cfg} {call : CallF} {yh : YF} {ops : Array Oper} {base : Nat} : ∀ (r pre : List Oper) (x : YS), ops.toList = pre ++ r →
    yOps C call yh ops base (List.range' pre.length r.length) x = yRun C call yh ops (base + pre.length) r x := by
  intro r
  induction r with
  | nil => intro pre x h; simp [yOps, yRun]
  | cons o r ih =>
    intro pre x h
    simp only [List.length_cons, List.range'_succ, yOps, yRun]
    have hi : ops[pre.length]? = some o := by rw [← Array.getElem?_toList, h]; simp
    rw [yStep_eq hi]
    congr 1
    funext x1
    have := ih (pre ++ [o]) x1 (by simp [h])
    simpa [Nat.add_assoc] using this

theorem yRegion {C : Cfg} {call : CallF} {yh : YF} {ops : Array Oper} {x : YS} : yOps C call yh ops x.st.mem.next (List.range ops.size) ⟨reserve x.st ops.size, x.y, x.p⟩ = yRun C call yh ops x.st.mem.next ops.toList ⟨reserve x.st ops.size, x.y, x.p⟩ := by
  have := yOps_range (C := C) (call := call) (yh := yh) (ops := ops) (base := x.st.mem.next) ops.toList [] ⟨reserve x.st ops.size, x.y, x.p⟩ rfl
  simpa [List.range_eq_range'] using this

theorem yrunS_ex : ∃ f : Cfg → CallF → YF → Array Oper → Nat → List Oper → YS → Option YS, f = yRun := ⟨yRun, rfl⟩
noncomputable def yrunS : Cfg → CallF → YF → Array Oper → Nat → List Oper → YS → Option YS := Classical.choose yrunS_ex
theorem yrunS_eq : yrunS = yRun := Classical.choose_spec yrunS_ex
theorem ystepS_ex : ∃ f : Cfg → CallF → YF → Array Oper → Nat → Oper → YS → Option YS, f = yStepO := ⟨yStepO, rfl⟩
noncomputable def ystepS : Cfg → CallF → YF → Array Oper → Nat → Oper → YS → Option YS := Classical.choose ystepS_ex
theorem ystepS_eq : ystepS = yStepO := Classical.choose_spec ystepS_ex
@[simp] theorem yrunS_nil {C : Cfg} {call : CallF} {yh : YF} {ops : Array Oper} {new : Nat} {x : YS} : yrunS C call yh ops new [] x = some x := by rw [yrunS_eq, yRun]
@[simp] theorem yrunS_cons {C : Cfg} {call : CallF} {yh : YF} {ops : Array Oper} {new : Nat} {o : Oper} {r : List Oper} {x : YS} : yrunS C call yh ops new (o :: r) x = (ystepS C call yh ops new o x).bind (yrunS C call yh ops (new + 1) r) := by rw [yrunS_eq, ystepS_eq, yRun]
@[simp] theorem ystepS_def {C : Cfg} {call : CallF} {yh : YF} {ops : Array Oper} {new : Nat} {o : Oper} {x : YS} : ystepS C call yh ops new o x = (match wantedA ops x.st.env o with
    | none => none
    | some false => (stepS C call ops new o x.st).map fun s => ⟨s, yLess x.y o.dst, x.p⟩
    | some true => match yCallee x.y o with
      | some args => match x.p with
        | none => match yh (args.map (opd C x.st.env)) x.st.mem with
          | some (b, m, p) => some ⟨⟨setOpt x.st.env o.dst (.bool b), m⟩, yLess x.y o.dst, p⟩
          | none => none
        | some _ => none
      | none => (stepS C call ops new o x.st).map fun s => ⟨s, if yMoved x.y o then (match o.dst with
          | some d => d :: yLess x.y o.dst
          | none => x.y) else yLess x.y o.dst, x.p⟩) := by rw [ystepS_eq, stepS_eq, yStepO]

section
variable {C : Cfg} {call : CallF} {yh : YF} {n : Nat} {x : YS}
@[simp] theorem yc_skip : yCode C call yh n .skip x = some (.normal, x) := rfl
@[simp] theorem yc_seq {a b : Code} : yCode C call yh n (.seq a b) x = (match yCode C call yh n a x with
    | some (.normal, x1) => yCode C call yh n b x1
    | r => r) := by rw [yCode]; rfl
@[simp] theorem yc_cond {c : Operand} {a b : Code} : yCode C call yh n (.cond c a b) x = (match opd C x.st.env c with
    | .bool t => if t then yCode C call yh n a x else yCode C call yh n b x
    | _ => none) := by rw [yCode]; rfl
@[simp] theorem yc_block {id : Nat} {c : Code} : yCode C call yh n (.block id c) x = (match yCode C call yh n c x with
    | some (.exit id', x1) => if id' = id then some (.normal, x1) else some (.exit id', x1)
    | r => r) := by rw [yCode]; rfl
@[simp] theorem yc_exit {id : Nat} : yCode C call yh n (.exit id) x = some (.exit id, x) := rfl
@[simp] theorem yc_ret : yCode C call yh n .ret x = some (.ret, x) := rfl
@[simp] theorem yc_region {id : Nat} {ops : Array Oper} : yCode C call yh n (.region id ops false) x = (yrunS C call yh ops x.st.mem.next ops.toList ⟨reserve x.st ops.size, x.y, x.p⟩).map fun x1 => (.normal, x1) := by
  rw [yCode, if_neg (by simp), yRegion, yrunS_eq]

def YRound (Inv : Nat → YS → Prop) (Post : AExit → YS → Prop) (j : Nat) : AExit × YS → Prop
  | (.normal, x) => 0 < j ∧ Inv (j - 1) x
  | (e, x) => Post e x

theorem yloop_rule {c : Code} {r : Option (AExit × YS)} (hl : yCode C call yh n (.loop c) x = r) (Inv : Nat → YS → Prop) (Post : AExit → YS → Prop) (j : Nat) (hj : j < n) (hi : Inv j x)
    (step : ∀ j x, Inv j x → ∃ p, yCode C call yh n c x = some p ∧ YRound Inv Post j p) : ∃ e x', r = some (e, x') ∧ e ≠ .normal ∧ Post e x' := by
  rw [yCode] at hl
  have key : ∀ (n' j : Nat) (x : YS), j < n' → Inv j x → ∃ e x', yLoop (yCode C call yh n c) n' x = some (e, x') ∧ e ≠ .normal ∧ Post e x' := by
    intro n'
    induction n' with
    | zero => intro j x h; omega
    | succ n' ih =>
      intro j x hj hi
      obtain ⟨⟨e, x1⟩, h1, h2⟩ := step j x hi
      simp only [yLoop]
      rw [h1]
      cases e with
      | normal => exact ih (j - 1) x1 (by have := h2.1; omega) h2.2
      | exit id => exact ⟨_, x1, rfl, by simp, h2⟩
      | ret => exact ⟨_, x1, rfl, by simp, h2⟩
  obtain ⟨e, x', h1, h2, h3⟩ := key n j x hj hi
  exact ⟨e, x', hl.symm.trans h1, h2, h3⟩
end

def rangeChk (fn : Func) (n : Nat) : Bool :=
  match fn.body with
  | some code => flat code && (codeOk fn.ntmps code && (decide (n + 1 ≤ fn.ntmps) && (!(fn.name == "runtime.NumGoroutine") && fn.results.toList.isEmpty)))
  | none => false

/-- A range over a function, reckoned. -/
theorem range_eq {C : Cfg} {call : CallF} {T : Nat → List (Nat × Nat)} {n : Nat} {g : Operand} {ps : Array Tmp} {ca cb : Code} {s : St} {f : FuncId} {captured : List AVal} (hg : opd C s.env g = .fn f [] captured) {fn : Func} (hf : C.P.funcs[f]? = some fn) (hc : rangeChk fn captured.length = true) :
    cCode C call T n (.rangeFunc g ps ca cb) s = rangeEnd s.env (yCode C call (roundF s.env ps (cCode C call T n ca) (cCode C call T n cb)) n (codeOf fn) ⟨⟨yEnv captured, s.mem⟩, [0], none⟩) := by
  unfold rangeChk at hc
  unfold codeOf
  rw [cCode]
  unfold rangeF
  rw [hg]
  simp only [hf]
  cases hb : fn.body with
  | none => rw [hb] at hc; cases hc
  | some code =>
    simp only [hb, Bool.and_eq_true, decide_eq_true_eq, Bool.not_eq_true'] at hc
    simp only [Option.getD_some]
    rw [if_pos ⟨hc.1, hc.2.1, hc.2.2.1, hc.2.2.2.1, hc.2.2.2.2⟩]

@[simp] theorem yEnv_zero {c : List AVal} : yEnv c 0 = .junk := rfl
@[simp] theorem yEnv_one {a : AVal} {r : List AVal} : yEnv (a :: r) 1 = a := rfl
@[simp] theorem yEnv_two {a b : AVal} {r : List AVal} : yEnv (a :: b :: r) 2 = b := rfl
@[simp] theorem yEnv_three {a b c : AVal} {r : List AVal} : yEnv (a :: b :: c :: r) 3 = c := rfl
attribute [simp] yCallee yMoved yLess YRound
end Go.Ab
end
section
/- From the readings of the arguments to the abstract machine's values. -/
set_option linter.unusedVariables false
set_option linter.unusedSimpArgs false
namespace Go.Ab
open Go Go.RowKit

/-- All old blocks. -/
def old (w : World) : Nat → Prop := fun b => b < w.heap.size

theorem flatMap_at {α : Type} {enc : α → List AVal} {sz : Nat} (he : ∀ x, (enc x).length = sz) (l : List α) {i q : Nat} (hq : q < sz) : (l.flatMap enc)[i * sz + q]? = (l[i]?).bind fun x => (enc x)[q]? := by
  rw [← List.getElem?_drop, flatMap_drop he]
  cases h : l.drop i with
  | nil =>
    have : l.length ≤ i := List.drop_eq_nil_iff.1 h
    rw [List.getElem?_eq_none this]
    rfl
  | cons x r =>
    have e : l[i]? = some x := by
      have := congrArg (·[0]?) h
      simpa using this
    rw [e, List.flatMap_cons, List.getElem?_append_left (by rw [he]; exact hq)]
    rfl

theorem exists_list {α : Type} {p : Nat → α → Prop} : ∀ {n : Nat}, (∀ i, i < n → ∃ x, p i x) → ∃ l : List α, l.length = n ∧ ∀ (i : Nat) (x : α), l[i]? = some x → p i x
  | 0, _ => ⟨[], rfl, fun i x hx => by simp at hx⟩
  | n + 1, h => by
    obtain ⟨l, h1, h2⟩ := exists_list (n := n) (fun i hi => h i (by omega))
    obtain ⟨x, hx⟩ := h n (by omega)
    refine ⟨l ++ [x], by simp [h1], fun i y hy => ?_⟩
    by_cases hi : i < l.length
    · rw [List.getElem?_append_left hi] at hy
      exact h2 i y hy
    · rw [List.getElem?_append_right (by omega)] at hy
      have hi' : i - l.length = 0 := by
        have := (List.getElem?_eq_some_iff.1 hy).1
        simp at this
        omega
      rw [hi'] at hy
      simp at hy
      subst hy
      have : i = n := by omega
      subst this
      exact hx

section
variable {H : Type} {ench : TypeId × Value → H} {P : Program} {w : World} {spare : Nat → Bool} {held : Bool}

/-- What one element of a slice reads as, as a value of the abstract machine. -/
def ElemOf {α : Type} (ench : TypeId × Value → H) (P : Program) (w : World) (spare : Nat → Bool) (held : Bool) (e : TypeId) (enc : α → List AVal) : Prop :=
  ∀ (n : Nat) (cs : List Value) (x : DataW H × List MemPlace), DataW.trod ench P w 0 spare held n e cs = some x →
    ∃ a : α, ∀ (j : Nat) (c : AVal), (enc a)[j]? = some c → ∃ v, cs[j]? = some v ∧ v.oneCell' = true ∧ VI (old w) w c v

theorem slice_one {r : Reach} {base : Nat} {t e : TypeId} {v : Value} (ht : P.underlying t = some (.slice e)) (h : Value.okWide P w r base t v) : v.oneCell' = true ∧ v.cells.toList = [v] := by
  unfold Value.okWide at h
  rw [ht] at h
  simp only [Cell.okWide, ht] at h
  cases v <;> simp_all [Cell.ok, Value.oneCell', Value.cells]

theorem sl_of_trod {α : Type} {enc : α → List AVal} {t e : TypeId} {sz : Nat} {r : Reach} {base : Nat} {v : Value} {d : DataW H} {ps : List MemPlace} (ht : P.underlying t = some (.slice e)) (hsz : P.cellsOf e = sz) (hpos : 0 < sz)
    (hl : ∀ a, (enc a).length = sz) (hE : ElemOf ench P w spare held e enc) (hv : Value.okWide P w r base t v) (h : DataW.Trod ench P w 0 spare held t v d ps) :
    ∃ (l : List α) (a : AVal), SL enc a l ∧ VI (old w) w a v := by
  obtain ⟨fuel, h⟩ := h
  obtain ⟨h1, hcs⟩ := slice_one ht hv
  rw [hcs] at h
  rcases Go.Deep.open_slice ht h with ⟨hc, _⟩ | ⟨a, len, cap, m, n, D, Pl, hc, _, hlc, _, hm, _, hel⟩
  · cases hc
    exact ⟨[], .nils, .inl ⟨rfl, .inl rfl⟩, .nils⟩
  · cases hc
    by_cases h0 : len = 0
    · subst h0
      exact ⟨[], .imm 0 [], .inr rfl, .imm0 _ _⟩
    have hmlen : len ≤ m := by rw [hm]; split <;> omega
    have hall : ∀ i, i < len → ∃ x : α, ∀ q, q < sz → ∃ u, w.cell? (a.add (i * sz + q)) = some u ∧ u.oneCell' = true ∧ ∀ c, (enc x)[q]? = some c → VI (old w) w c u := fun i hi => by
      obtain ⟨cs', g1, g2⟩ := hel i (by omega)
      obtain ⟨_, glen, gat⟩ := World.cells?_some g1
      obtain ⟨x, hx⟩ := hE n cs' _ g2
      refine ⟨x, fun q hq => ?_⟩
      have hq' : q < (enc x).length := by rw [hl]; exact hq
      obtain ⟨u, k1, k2, k3⟩ := hx q _ (List.getElem?_eq_getElem hq')
      have := gat q (by rw [hsz]; exact hq)
      rw [Go.Deep.add_add, k1, hsz] at this
      refine ⟨u, this, k2, fun c hc => ?_⟩
      rw [List.getElem?_eq_getElem hq'] at hc
      cases hc
      exact k3
    obtain ⟨l, hll, hlx⟩ := exists_list hall
    have hsp : a.spot = none := by
      have hl0 : 0 < l.length := by omega
      obtain ⟨u, k1, _⟩ := hlx 0 _ (List.getElem?_eq_getElem hl0) 0 hpos
      simp only [Nat.zero_mul, Nat.zero_add, Addr.add, if_pos] at k1
      unfold World.cell? at k1
      split at k1
      · split at k1
        · cases k1
        · rename_i hs; simpa using hs
      · cases k1
    have had : ∀ j, a.add j = ⟨a.block, a.off + j, none⟩ := fun j => by
      unfold Addr.add
      split
      · rename_i hj
        subst hj
        cases a
        simp at hsp
        subst hsp
        rfl
      · rfl
    have key : ∀ j c, (l.flatMap enc)[j]? = some c → ∃ u, w.cell? ⟨a.block, a.off + j, none⟩ = some u ∧ u.oneCell' = true ∧ VI (old w) w c u := fun j c hj => by
      have hdm : j = (j / sz) * sz + j % sz := by rw [Nat.mul_comm]; exact (Nat.div_add_mod j sz).symm
      have hq := Nat.mod_lt j hpos
      rw [hdm, flatMap_at hl l hq] at hj
      obtain ⟨x, hx, hc⟩ := Option.bind_eq_some_iff.1 hj
      obtain ⟨u, k1, k2, k3⟩ := hlx _ x hx _ hq
      rw [← hdm, had] at k1
      exact ⟨u, k1, k2, k3 c hc⟩
    have hb : old w a.block := by
      have hl0 : 0 < l.length := by omega
      obtain ⟨u, k1, _⟩ := hlx 0 _ (List.getElem?_eq_getElem hl0) 0 hpos
      rw [had] at k1
      unfold World.cell? at k1
      split at k1
      · rename_i c _ _ hh
        exact (Array.getElem?_eq_some_iff.1 hh).1
      · cases k1
    refine ⟨l, .imm l.length (l.flatMap enc), .inr rfl, ?_⟩
    have ea : a = ⟨a.block, a.off, none⟩ := by
      cases a
      simp at hsp
      subst hsp
      rfl
    rw [ea, hll]
    exact .imm len cap a.block a.off _ (fun j => (w.cell? ⟨a.block, a.off + j, none⟩).getD .nilFunc) hb hlc (fun j c hj => by
      obtain ⟨u, k1, k2, _⟩ := key j c hj
      rw [k1]
      exact ⟨rfl, k2⟩) (fun j c hj => by
      obtain ⟨u, k1, _, k3⟩ := key j c hj
      rw [k1]
      exact k3)

/-- The renaming of a memory in which only the package-level variables lie owns nothing. -/
theorem m0_below {C : Cfg} {I : Nat → Prop} {w w' : World} {r : AVal} {m' : Mem} {e : Ending} (h : CallPost C (ren0 C) I C.m0 w r m' e w') :
    ∃ v ρ' I', e = .returned v ∧ VR ρ' I' w' r v ∧ Below w.heap.size w w' := by
  obtain ⟨v, ρ', I', rfl, _, h2, h3, _⟩ := h
  refine ⟨v, ρ', I', rfl, h2, h3.os, h3.tape, h3.output, h3.size, fun b hb => h3.same b hb ?_⟩
  rintro ⟨id, base, k1, _⟩
  simp only [Cfg.m0] at k1
  split at k1 <;> cases k1

theorem VI.int_elem (I : Nat → Prop) (w : World) (k : IntKind) (n : Int) : VI I w (.int k n) (.int k n) := .int k n

theorem elem_int {e : TypeId} (he : P.underlying e = some (.int .i64)) : ElemOf ench P w spare held e (fun x : Int => [AVal.int .i64 x]) := fun n cs x hx => by
  obtain ⟨z, rfl, _⟩ := DataW.trod_int he hx
  refine ⟨z, fun j c hj => ?_⟩
  cases j with
  | zero => simp at hj; subst hj; exact ⟨_, rfl, rfl, .int _ _⟩
  | succ j => simp at hj
theorem elem_bool {e : TypeId} (he : P.underlying e = some .bool) : ElemOf ench P w spare held e (fun x : Bool => [AVal.bool x]) := fun n cs x hx => by
  obtain ⟨z, rfl, _⟩ := DataW.trod_bool he hx
  refine ⟨z, fun j c hj => ?_⟩
  cases j with
  | zero => simp at hj; subst hj; exact ⟨_, rfl, rfl, .bool _⟩
  | succ j => simp at hj

/-- A field of a struct that is one integer. -/
theorem field_int {t : TypeId} {fs : Array Field} {n : Nat} {cs : List Value} {x : DataW H × List MemPlace} (ht : P.underlying t = some (.struct fs)) (h : DataW.trod ench P w 0 spare held n t cs = some x) {i : Nat} {f : Field} (hf : fs[i]? = some f) {k : IntKind}
    (hk : P.underlying f.type = some (.int k)) : ∃ z, cs[f.offset]? = some (.int k z) := by
  obtain ⟨xs, m, _, _, _, hlen, hall⟩ := DataW.trod_struct ht h
  have hi : i < xs.length := by rw [hlen]; exact (Array.getElem?_eq_some_iff.1 hf).1
  have := hall i f hf
  rw [List.getElem?_eq_getElem hi] at this
  obtain ⟨z, hz, _⟩ := DataW.trod_int hk this
  refine ⟨z, ?_⟩
  have h2 : ((cs.drop f.offset).take (P.cellsOf f.type))[0]? = some (.int k z) := by rw [hz]; rfl
  rw [List.getElem?_take] at h2
  split at h2
  · rw [List.getElem?_drop] at h2
    simpa using h2
  · cases h2
end
end Go.Ab
end
section
/- The types of the program, the configuration of the abstract machine, and the bodies of the functions. -/
set_option linter.unusedVariables false
namespace Go.Proofs.Ytmfdjipijifabab
open Go.Ab
@[simp] theorem sz3 : sizeT Try.prog 3 = some 1 := by kernel_rfl
@[simp] theorem ag3 : isAggT Try.prog 3 = some false := by kernel_rfl
@[simp] theorem zc3 : zeroA Try.prog 3 = some [AVal.int .i64 0] := by kernel_rfl
@[simp] theorem sz4 : sizeT Try.prog 4 = some 1 := by kernel_rfl
@[simp] theorem ag4 : isAggT Try.prog 4 = some false := by kernel_rfl
@[simp] theorem zc4 : zeroA Try.prog 4 = some [AVal.bool false] := by kernel_rfl
@[simp] theorem sz5 : sizeT Try.prog 5 = some 1 := by kernel_rfl
@[simp] theorem ag5 : isAggT Try.prog 5 = some false := by kernel_rfl
@[simp] theorem zc5 : zeroA Try.prog 5 = some [AVal.int .u8 0] := by kernel_rfl
@[simp] theorem sz9 : sizeT Try.prog 9 = some 1 := by kernel_rfl
@[simp] theorem ag9 : isAggT Try.prog 9 = some false := by kernel_rfl
@[simp] theorem zc9 : zeroA Try.prog 9 = some [AVal.str ByteArray.empty] := by kernel_rfl
@[simp] theorem sz22 : sizeT Try.prog 22 = some 1 := by kernel_rfl
@[simp] theorem ag22 : isAggT Try.prog 22 = some false := by kernel_rfl
@[simp] theorem zc22 : zeroA Try.prog 22 = some [AVal.nils] := by kernel_rfl
@[simp] theorem sz24 : sizeT Try.prog 24 = some 4 := by kernel_rfl
@[simp] theorem ag24 : isAggT Try.prog 24 = some true := by kernel_rfl
@[simp] theorem zc24 : zeroA Try.prog 24 = some [AVal.int .i64 0, AVal.int .i64 0, AVal.int .i64 0, AVal.int .i64 0] := by kernel_rfl
@[simp] theorem sz25 : sizeT Try.prog 25 = some 1 := by kernel_rfl
@[simp] theorem ag25 : isAggT Try.prog 25 = some false := by kernel_rfl
@[simp] theorem zc25 : zeroA Try.prog 25 = some [AVal.nils] := by kernel_rfl
@[simp] theorem sz26 : sizeT Try.prog 26 = some 1 := by kernel_rfl
@[simp] theorem ag26 : isAggT Try.prog 26 = some false := by kernel_rfl
@[simp] theorem zc26 : zeroA Try.prog 26 = some [AVal.nils] := by kernel_rfl
@[simp] theorem sz28 : sizeT Try.prog 28 = some 2 := by kernel_rfl
@[simp] theorem ag28 : isAggT Try.prog 28 = some true := by kernel_rfl
@[simp] theorem zc28 : zeroA Try.prog 28 = some [AVal.nils, AVal.nils] := by kernel_rfl
@[simp] theorem sz29 : sizeT Try.prog 29 = some 1 := by kernel_rfl
@[simp] theorem ag29 : isAggT Try.prog 29 = some false := by kernel_rfl
@[simp] theorem zc29 : zeroA Try.prog 29 = some [AVal.nils] := by kernel_rfl
@[simp] theorem sz31 : sizeT Try.prog 31 = some 5 := by kernel_rfl
@[simp] theorem ag31 : isAggT Try.prog 31 = some true := by kernel_rfl
@[simp] theorem zc31 : zeroA Try.prog 31 = some [AVal.int .i64 0, AVal.int .i64 0, AVal.int .i64 0, AVal.int .i64 0, AVal.int .i64 0] := by kernel_rfl
@[simp] theorem sz33 : sizeT Try.prog 33 = some 1 := by kernel_rfl
@[simp] theorem ag33 : isAggT Try.prog 33 = some false := by kernel_rfl
@[simp] theorem zc33 : zeroA Try.prog 33 = some [AVal.nils] := by kernel_rfl
@[simp] theorem sz34 : sizeT Try.prog 34 = some 1 := by kernel_rfl
@[simp] theorem ag34 : isAggT Try.prog 34 = some false := by kernel_rfl
@[simp] theorem zc34 : zeroA Try.prog 34 = some [AVal.nils] := by kernel_rfl
@[simp] theorem sz35 : sizeT Try.prog 35 = some 1 := by kernel_rfl
@[simp] theorem ag35 : isAggT Try.prog 35 = some false := by kernel_rfl
@[simp] theorem zc35 : zeroA Try.prog 35 = some [AVal.int .i64 0] := by kernel_rfl
@[simp] theorem sz41 : sizeT Try.prog 41 = some 1 := by kernel_rfl
@[simp] theorem ag41 : isAggT Try.prog 41 = some false := by kernel_rfl
@[simp] theorem zc41 : zeroA Try.prog 41 = some [AVal.nils] := by kernel_rfl
@[simp] theorem sz43 : sizeT Try.prog 43 = some 2 := by kernel_rfl
@[simp] theorem ag43 : isAggT Try.prog 43 = some true := by kernel_rfl
@[simp] theorem zc43 : zeroA Try.prog 43 = some [AVal.nils, AVal.int .i64 0] := by kernel_rfl
@[simp] theorem sz45 : sizeT Try.prog 45 = some 9 := by kernel_rfl
@[simp] theorem ag45 : isAggT Try.prog 45 = some true := by kernel_rfl
@[simp] theorem zc45 : zeroA Try.prog 45 = some [AVal.nils, AVal.nils, AVal.int .i64 0, AVal.bool false, AVal.nils, AVal.int .i64 0, AVal.int .i64 0, AVal.int .i64 0, AVal.int .i64 0] := by kernel_rfl
@[simp] theorem sz48 : sizeT Try.prog 48 = some 1 := by kernel_rfl
@[simp] theorem ag48 : isAggT Try.prog 48 = some false := by kernel_rfl
@[simp] theorem zc48 : zeroA Try.prog 48 = some [AVal.nils] := by kernel_rfl
@[simp] theorem sz50 : sizeT Try.prog 50 = some 2 := by kernel_rfl
@[simp] theorem ag50 : isAggT Try.prog 50 = some true := by kernel_rfl
@[simp] theorem zc50 : zeroA Try.prog 50 = some [AVal.nils, AVal.int .i64 0] := by kernel_rfl
@[simp] theorem sz66 : sizeT Try.prog 66 = some 3 := by kernel_rfl
@[simp] theorem ag66 : isAggT Try.prog 66 = some true := by kernel_rfl
@[simp] theorem zc66 : zeroA Try.prog 66 = some [AVal.int .i64 0, AVal.int .i64 0, AVal.bool false] := by kernel_rfl
@[simp] theorem sz74 : sizeT Try.prog 74 = some 2 := by kernel_rfl
@[simp] theorem ag74 : isAggT Try.prog 74 = some true := by kernel_rfl
@[simp] theorem zc74 : zeroA Try.prog 74 = some [AVal.int .i64 0, AVal.int .i64 0] := by kernel_rfl
@[simp] theorem sz76 : sizeT Try.prog 76 = some 1 := by kernel_rfl
@[simp] theorem ag76 : isAggT Try.prog 76 = some false := by kernel_rfl
@[simp] theorem zc76 : zeroA Try.prog 76 = some [AVal.nilp] := by kernel_rfl
@[simp] theorem sz80 : sizeT Try.prog 80 = some 2 := by kernel_rfl
@[simp] theorem ag80 : isAggT Try.prog 80 = some true := by kernel_rfl
@[simp] theorem zc80 : zeroA Try.prog 80 = some [AVal.nils, AVal.int .i64 0] := by kernel_rfl
@[simp] theorem sz82 : sizeT Try.prog 82 = some 1 := by kernel_rfl
@[simp] theorem ag82 : isAggT Try.prog 82 = some false := by kernel_rfl
@[simp] theorem sz83 : sizeT Try.prog 83 = some 1 := by kernel_rfl
@[simp] theorem ag83 : isAggT Try.prog 83 = some false := by kernel_rfl
@[simp] theorem zc83 : zeroA Try.prog 83 = some [AVal.nilp] := by kernel_rfl
@[simp] theorem sz91 : sizeT Try.prog 91 = some 36 := by kernel_rfl
@[simp] theorem ag91 : isAggT Try.prog 91 = some true := by kernel_rfl
@[simp] theorem zc91 : zeroA Try.prog 91 = some [AVal.int .i64 0, AVal.int .i64 0, AVal.bool false, AVal.int .i64 0, AVal.int .i64 0, AVal.bool false, AVal.int .i64 0, AVal.int .i64 0, AVal.bool false, AVal.int .i64 0, AVal.int .i64 0, AVal.bool false, AVal.int .i64 0, AVal.int .i64 0, AVal.bool false, AVal.int .i64 0, AVal.int .i64 0, AVal.bool false, AVal.int .i64 0, AVal.int .i64 0, AVal.bool false, AVal.int .i64 0, AVal.int .i64 0, AVal.bool false, AVal.int .i64 0, AVal.int .i64 0, AVal.bool false, AVal.int .i64 0, AVal.int .i64 0, AVal.bool false, AVal.int .i64 0, AVal.int .i64 0, AVal.bool false, AVal.int .i64 0, AVal.int .i64 0, AVal.bool false] := by kernel_rfl
@[simp] theorem sz94 : sizeT Try.prog 94 = some 5 := by kernel_rfl
@[simp] theorem ag94 : isAggT Try.prog 94 = some true := by kernel_rfl
@[simp] theorem zc94 : zeroA Try.prog 94 = some [AVal.int .i64 0, AVal.int .i64 0, AVal.int .i64 0, AVal.int .i64 0, AVal.bool false] := by kernel_rfl
@[simp] theorem sz96 : sizeT Try.prog 96 = some 1 := by kernel_rfl
@[simp] theorem ag96 : isAggT Try.prog 96 = some false := by kernel_rfl
@[simp] theorem sz102 : sizeT Try.prog 102 = some 4 := by kernel_rfl
@[simp] theorem ag102 : isAggT Try.prog 102 = some true := by kernel_rfl
@[simp] theorem zc102 : zeroA Try.prog 102 = some [AVal.int .i64 0, AVal.int .i64 0, AVal.int .i64 0, AVal.int .i64 0] := by kernel_rfl
@[simp] theorem sz109 : sizeT Try.prog 109 = some 1 := by kernel_rfl
@[simp] theorem ag109 : isAggT Try.prog 109 = some false := by kernel_rfl
@[simp] theorem sz111 : sizeT Try.prog 111 = some 1 := by kernel_rfl
@[simp] theorem ag111 : isAggT Try.prog 111 = some false := by kernel_rfl
@[simp] theorem zc111 : zeroA Try.prog 111 = some [AVal.int .u64 0] := by kernel_rfl
@[simp] theorem sz113 : sizeT Try.prog 113 = some 1 := by kernel_rfl
@[simp] theorem ag113 : isAggT Try.prog 113 = some false := by kernel_rfl
@[simp] theorem zc113 : zeroA Try.prog 113 = some [AVal.int .i64 0] := by kernel_rfl
@[simp] theorem sz117 : sizeT Try.prog 117 = some 1 := by kernel_rfl
@[simp] theorem ag117 : isAggT Try.prog 117 = some false := by kernel_rfl
@[simp] theorem sz119 : sizeT Try.prog 119 = some 1 := by kernel_rfl
@[simp] theorem ag119 : isAggT Try.prog 119 = some false := by kernel_rfl
@[simp] theorem sz123 : sizeT Try.prog 123 = some 1 := by kernel_rfl
@[simp] theorem ag123 : isAggT Try.prog 123 = some false := by kernel_rfl
@[simp] theorem zc123 : zeroA Try.prog 123 = some [AVal.int .u64 0] := by kernel_rfl
attribute [simp] Try.underlying3 Try.underlying4 Try.underlying5 Try.underlying9 Try.underlying22 Try.underlying24 Try.underlying25 Try.underlying26 Try.underlying28 Try.underlying29 Try.underlying31 Try.underlying33 Try.underlying34 Try.underlying35 Try.underlying41 Try.underlying43 Try.underlying45 Try.underlying48 Try.underlying50 Try.underlying66 Try.underlying74 Try.underlying76 Try.underlying80 Try.underlying82 Try.underlying83 Try.underlying91 Try.underlying94 Try.underlying96 Try.underlying102 Try.underlying109 Try.underlying111 Try.underlying113 Try.underlying117 Try.underlying119 Try.underlying123
def pures : List Nat := [3,4,5,6,7,8,9,10,12,14,15,16,17,18,19,20,21,22,23,24,26,30,31,32,33,34,35,36,37,38,39,40,41,42,45,47,48,49,51,53,54,55,56,59,60,61,62,63,67,68,69,70,75,77,78,79]

noncomputable def C : Cfg where
  P := Try.prog
  ng := 0
  glob := fun _ => []
  kind := fun f => if pures.contains f then .pure else if f = 44 then .shallow else if f = 66 then .shallow else if f = 13 then .reader else if f = 29 then .reader else .plain
@[simp] theorem C_P : C.P = Try.prog := rfl
@[simp] theorem C_ng : C.ng = 0 := rfl
def T (f id : Nat) : List (Nat × Nat) :=
  if f = 3 ∧ id = 8 then [(1, 4), (4, 7), (1, 8), (4, 11), (8, 11), (1, 12), (1, 14)] else
  if f = 3 ∧ id = 53 then [(4, 8)] else
  if f = 7 ∧ id = 2 then [(1, 7), (5, 7)] else
  if f = 8 ∧ id = 9 then [(1, 10), (10, 13), (11, 13), (1, 15), (4, 15), (11, 15), (13, 15)] else
  if f = 8 ∧ id = 22 then [(20, 33), (23, 33), (25, 33), (27, 33), (29, 33)] else
  if f = 15 ∧ id = 1 then [(1, 10), (4, 10), (6, 10), (9, 10), (1, 11), (4, 11), (6, 11), (9, 11), (6, 12), (9, 12)] else
  if f = 25 ∧ id = 1 then [(2, 4)] else
  if f = 31 ∧ id = 10 then [(1, 3), (1, 4)] else
  if f = 48 ∧ id = 4 then [(1, 2)] else
  if f = 48 ∧ id = 5 then [(1, 4), (3, 4)] else
  if f = 48 ∧ id = 8 then [(1, 2)] else
  if f = 76 ∧ id = 1 then [(2, 3), (2, 4), (2, 8), (5, 8), (6, 8), (2, 10), (5, 10), (6, 10)] else
  []
@[simp] theorem T_3_8 : T 3 8 = [(1, 4), (4, 7), (1, 8), (4, 11), (8, 11), (1, 12), (1, 14)] := by kernel_rfl
@[simp] theorem T_3_45 : T 3 45 = [] := by kernel_rfl
@[simp] theorem T_3_53 : T 3 53 = [(4, 8)] := by kernel_rfl
@[simp] theorem T_7_1 : T 7 1 = [] := by kernel_rfl
@[simp] theorem T_7_2 : T 7 2 = [(1, 7), (5, 7)] := by kernel_rfl
@[simp] theorem T_8_9 : T 8 9 = [(1, 10), (10, 13), (11, 13), (1, 15), (4, 15), (11, 15), (13, 15)] := by kernel_rfl
@[simp] theorem T_8_22 : T 8 22 = [(20, 33), (23, 33), (25, 33), (27, 33), (29, 33)] := by kernel_rfl
@[simp] theorem T_10_3 : T 10 3 = [] := by kernel_rfl
@[simp] theorem T_10_5 : T 10 5 = [] := by kernel_rfl
@[simp] theorem T_10_8 : T 10 8 = [] := by kernel_rfl
@[simp] theorem T_10_10 : T 10 10 = [] := by kernel_rfl
@[simp] theorem T_11_9 : T 11 9 = [] := by kernel_rfl
@[simp] theorem T_13_2 : T 13 2 = [] := by kernel_rfl
@[simp] theorem T_13_9 : T 13 9 = [] := by kernel_rfl
@[simp] theorem T_15_1 : T 15 1 = [(1, 10), (4, 10), (6, 10), (9, 10), (1, 11), (4, 11), (6, 11), (9, 11), (6, 12), (9, 12)] := by kernel_rfl
@[simp] theorem T_16_1 : T 16 1 = [] := by kernel_rfl
@[simp] theorem T_25_1 : T 25 1 = [(2, 4)] := by kernel_rfl
@[simp] theorem T_27_2 : T 27 2 = [] := by kernel_rfl
@[simp] theorem T_27_3 : T 27 3 = [] := by kernel_rfl
@[simp] theorem T_29_1 : T 29 1 = [] := by kernel_rfl
@[simp] theorem T_29_3 : T 29 3 = [] := by kernel_rfl
@[simp] theorem T_29_5 : T 29 5 = [] := by kernel_rfl
@[simp] theorem T_31_10 : T 31 10 = [(1, 3), (1, 4)] := by kernel_rfl
@[simp] theorem T_46_0 : T 46 0 = [] := by kernel_rfl
@[simp] theorem T_48_4 : T 48 4 = [(1, 2)] := by kernel_rfl
@[simp] theorem T_48_5 : T 48 5 = [(1, 4), (3, 4)] := by kernel_rfl
@[simp] theorem T_48_8 : T 48 8 = [(1, 2)] := by kernel_rfl
@[simp] theorem T_65_5 : T 65 5 = [] := by kernel_rfl
@[simp] theorem T_76_1 : T 76 1 = [(2, 3), (2, 4), (2, 8), (5, 8), (6, 8), (2, 10), (5, 10), (6, 10)] := by kernel_rfl
@[simp] theorem kd3 : C.kind 3 = .pure := by kernel_rfl
theorem chk3 : bodyChk (T 3) Try.f3 2 = true := by kernel_rfl
theorem body3 (call : CallF) (n : Nat) (m : Mem) (a0 a1 : AVal) : cBody C call (T 3) n 3 [a0, a1] m = fin C [.tmp 4] (cCode C call (T 3) n (codeOf Try.f3) ⟨envOf [a0, a1], m⟩) := cBody_eq Try.func3 chk3 (by kernel_rfl) m
@[simp] theorem kd4 : C.kind 4 = .pure := by kernel_rfl
theorem chk4 : bodyChk (T 4) Try.f4 2 = true := by kernel_rfl
theorem body4 (call : CallF) (n : Nat) (m : Mem) (a0 a1 : AVal) : cBody C call (T 4) n 4 [a0, a1] m = fin C [.tmp 4] (cCode C call (T 4) n (codeOf Try.f4) ⟨envOf [a0, a1], m⟩) := cBody_eq Try.func4 chk4 (by kernel_rfl) m
@[simp] theorem kd5 : C.kind 5 = .pure := by kernel_rfl
theorem chk5 : bodyChk (T 5) Try.f5 3 = true := by kernel_rfl
theorem body5 (call : CallF) (n : Nat) (m : Mem) (a0 a1 a2 : AVal) : cBody C call (T 5) n 5 [a0, a1, a2] m = fin C [.tmp 6, .tmp 7] (cCode C call (T 5) n (codeOf Try.f5) ⟨envOf [a0, a1, a2], m⟩) := cBody_eq Try.func5 chk5 (by kernel_rfl) m
@[simp] theorem kd6 : C.kind 6 = .pure := by kernel_rfl
theorem chk6 : bodyChk (T 6) Try.f6 3 = true := by kernel_rfl
theorem body6 (call : CallF) (n : Nat) (m : Mem) (a0 a1 a2 : AVal) : cBody C call (T 6) n 6 [a0, a1, a2] m = fin C [.tmp 6, .tmp 7] (cCode C call (T 6) n (codeOf Try.f6) ⟨envOf [a0, a1, a2], m⟩) := cBody_eq Try.func6 chk6 (by kernel_rfl) m
@[simp] theorem kd7 : C.kind 7 = .pure := by kernel_rfl
theorem chk7 : bodyChk (T 7) Try.f7 3 = true := by kernel_rfl
theorem body7 (call : CallF) (n : Nat) (m : Mem) (a0 a1 a2 : AVal) : cBody C call (T 7) n 7 [a0, a1, a2] m = fin C [.tmp 6] (cCode C call (T 7) n (codeOf Try.f7) ⟨envOf [a0, a1, a2], m⟩) := cBody_eq Try.func7 chk7 (by kernel_rfl) m
@[simp] theorem kd8 : C.kind 8 = .pure := by kernel_rfl
theorem chk8 : bodyChk (T 8) Try.f8 2 = true := by kernel_rfl
theorem body8 (call : CallF) (n : Nat) (m : Mem) (a0 a1 : AVal) : cBody C call (T 8) n 8 [a0, a1] m = fin C [.cell 4 45, .tmp 5] (cCode C call (T 8) n (codeOf Try.f8) ⟨envOf [a0, a1], m⟩) := cBody_eq Try.func8 chk8 (by kernel_rfl) m
@[simp] theorem kd9 : C.kind 9 = .pure := by kernel_rfl
theorem chk9 : bodyChk (T 9) Try.f9 1 = true := by kernel_rfl
theorem body9 (call : CallF) (n : Nat) (m : Mem) (a0 : AVal) : cBody C call (T 9) n 9 [a0] m = fin C [.cell 2 50, .tmp 3] (cCode C call (T 9) n (codeOf Try.f9) ⟨envOf [a0], m⟩) := cBody_eq Try.func9 chk9 (by kernel_rfl) m
@[simp] theorem kd10 : C.kind 10 = .pure := by kernel_rfl
theorem chk10 : bodyChk (T 10) Try.f10 2 = true := by kernel_rfl
theorem body10 (call : CallF) (n : Nat) (m : Mem) (a0 a1 : AVal) : cBody C call (T 10) n 10 [a0, a1] m = fin C [.tmp 4, .cell 5 50, .tmp 6] (cCode C call (T 10) n (codeOf Try.f10) ⟨envOf [a0, a1], m⟩) := cBody_eq Try.func10 chk10 (by kernel_rfl) m
@[simp] theorem kd11 : C.kind 11 = .plain := by kernel_rfl
theorem chk11 : bodyChk (T 11) Try.f11 1 = true := by kernel_rfl
theorem body11 (call : CallF) (n : Nat) (m : Mem) (a0 : AVal) : cBody C call (T 11) n 11 [a0] m = fin C [.tmp 2, .tmp 3] (cCode C call (T 11) n (codeOf Try.f11) ⟨envOf [a0], m⟩) := cBody_eq Try.func11 chk11 (by kernel_rfl) m
@[simp] theorem kd12 : C.kind 12 = .pure := by kernel_rfl
theorem chk12 : bodyChk (T 12) Try.f12 3 = true := by kernel_rfl
theorem body12 (call : CallF) (n : Nat) (m : Mem) (a0 a1 a2 : AVal) : cBody C call (T 12) n 12 [a0, a1, a2] m = fin C [.cell 6 50, .tmp 7] (cCode C call (T 12) n (codeOf Try.f12) ⟨envOf [a0, a1, a2], m⟩) := cBody_eq Try.func12 chk12 (by kernel_rfl) m
@[simp] theorem kd13 : C.kind 13 = .reader := by kernel_rfl
theorem chk13 : bodyChk (T 13) Try.f13 1 = true := by kernel_rfl
theorem body13 (call : CallF) (n : Nat) (m : Mem) (a0 : AVal) : cBody C call (T 13) n 13 [a0] m = fin C [.tmp 2] (cCode C call (T 13) n (codeOf Try.f13) ⟨envOf [a0], m⟩) := cBody_eq Try.func13 chk13 (by kernel_rfl) m
@[simp] theorem kd14 : C.kind 14 = .pure := by kernel_rfl
theorem chk14 : bodyChk (T 14) Try.f14 2 = true := by kernel_rfl
theorem body14 (call : CallF) (n : Nat) (m : Mem) (a0 a1 : AVal) : cBody C call (T 14) n 14 [a0, a1] m = fin C [.tmp 4] (cCode C call (T 14) n (codeOf Try.f14) ⟨envOf [a0, a1], m⟩) := cBody_eq Try.func14 chk14 (by kernel_rfl) m
@[simp] theorem kd15 : C.kind 15 = .pure := by kernel_rfl
theorem chk15 : bodyChk (T 15) Try.f15 3 = true := by kernel_rfl
theorem body15 (call : CallF) (n : Nat) (m : Mem) (a0 a1 a2 : AVal) : cBody C call (T 15) n 15 [a0, a1, a2] m = fin C [.tmp 6] (cCode C call (T 15) n (codeOf Try.f15) ⟨envOf [a0, a1, a2], m⟩) := cBody_eq Try.func15 chk15 (by kernel_rfl) m
@[simp] theorem kd16 : C.kind 16 = .pure := by kernel_rfl
theorem chk16 : bodyChk (T 16) Try.f16 3 = true := by kernel_rfl
theorem body16 (call : CallF) (n : Nat) (m : Mem) (a0 a1 a2 : AVal) : cBody C call (T 16) n 16 [a0, a1, a2] m = fin C [.tmp 6] (cCode C call (T 16) n (codeOf Try.f16) ⟨envOf [a0, a1, a2], m⟩) := cBody_eq Try.func16 chk16 (by kernel_rfl) m
@[simp] theorem kd17 : C.kind 17 = .pure := by kernel_rfl
theorem chk17 : bodyChk (T 17) Try.f17 4 = true := by kernel_rfl
theorem body17 (call : CallF) (n : Nat) (m : Mem) (a0 a1 a2 a3 : AVal) : cBody C call (T 17) n 17 [a0, a1, a2, a3] m = fin C [.tmp 8, .tmp 9] (cCode C call (T 17) n (codeOf Try.f17) ⟨envOf [a0, a1, a2, a3], m⟩) := cBody_eq Try.func17 chk17 (by kernel_rfl) m
@[simp] theorem kd18 : C.kind 18 = .pure := by kernel_rfl
theorem chk18 : bodyChk (T 18) Try.f18 1 = true := by kernel_rfl
theorem body18 (call : CallF) (n : Nat) (m : Mem) (a0 : AVal) : cBody C call (T 18) n 18 [a0] m = fin C [.tmp 2] (cCode C call (T 18) n (codeOf Try.f18) ⟨envOf [a0], m⟩) := cBody_eq Try.func18 chk18 (by kernel_rfl) m
@[simp] theorem kd19 : C.kind 19 = .pure := by kernel_rfl
theorem chk19 : bodyChk (T 19) Try.f19 0 = true := by kernel_rfl
theorem body19 (call : CallF) (n : Nat) (m : Mem) : cBody C call (T 19) n 19 [] m = fin C [.tmp 0] (cCode C call (T 19) n (codeOf Try.f19) ⟨envOf [], m⟩) := cBody_eq Try.func19 chk19 (by kernel_rfl) m
@[simp] theorem kd20 : C.kind 20 = .pure := by kernel_rfl
theorem chk20 : bodyChk (T 20) Try.f20 1 = true := by kernel_rfl
theorem body20 (call : CallF) (n : Nat) (m : Mem) (a0 : AVal) : cBody C call (T 20) n 20 [a0] m = fin C [.cell 2 66, .tmp 3] (cCode C call (T 20) n (codeOf Try.f20) ⟨envOf [a0], m⟩) := cBody_eq Try.func20 chk20 (by kernel_rfl) m
@[simp] theorem kd21 : C.kind 21 = .pure := by kernel_rfl
theorem chk21 : bodyChk (T 21) Try.f21 2 = true := by kernel_rfl
theorem body21 (call : CallF) (n : Nat) (m : Mem) (a0 a1 : AVal) : cBody C call (T 21) n 21 [a0, a1] m = fin C [.tmp 4, .tmp 5] (cCode C call (T 21) n (codeOf Try.f21) ⟨envOf [a0, a1], m⟩) := cBody_eq Try.func21 chk21 (by kernel_rfl) m
@[simp] theorem kd22 : C.kind 22 = .pure := by kernel_rfl
theorem chk22 : bodyChk (T 22) Try.f22 1 = true := by kernel_rfl
theorem body22 (call : CallF) (n : Nat) (m : Mem) (a0 : AVal) : cBody C call (T 22) n 22 [a0] m = fin C [.cell 2 43, .tmp 3] (cCode C call (T 22) n (codeOf Try.f22) ⟨envOf [a0], m⟩) := cBody_eq Try.func22 chk22 (by kernel_rfl) m
@[simp] theorem kd23 : C.kind 23 = .pure := by kernel_rfl
theorem chk23 : bodyChk (T 23) Try.f23 1 = true := by kernel_rfl
theorem body23 (call : CallF) (n : Nat) (m : Mem) (a0 : AVal) : cBody C call (T 23) n 23 [a0] m = fin C [.tmp 2, .tmp 3] (cCode C call (T 23) n (codeOf Try.f23) ⟨envOf [a0], m⟩) := cBody_eq Try.func23 chk23 (by kernel_rfl) m
@[simp] theorem kd24 : C.kind 24 = .pure := by kernel_rfl
theorem chk24 : bodyChk (T 24) Try.f24 1 = true := by kernel_rfl
theorem body24 (call : CallF) (n : Nat) (m : Mem) (a0 : AVal) : cBody C call (T 24) n 24 [a0] m = fin C [.tmp 2] (cCode C call (T 24) n (codeOf Try.f24) ⟨envOf [a0], m⟩) := cBody_eq Try.func24 chk24 (by kernel_rfl) m
@[simp] theorem kd25 : C.kind 25 = .plain := by kernel_rfl
theorem chk25 : bodyChk (T 25) Try.f25 1 = true := by kernel_rfl
theorem body25 (call : CallF) (n : Nat) (m : Mem) (a0 : AVal) : cBody C call (T 25) n 25 [a0] m = fin C [.tmp 2] (cCode C call (T 25) n (codeOf Try.f25) ⟨envOf [a0], m⟩) := cBody_eq Try.func25 chk25 (by kernel_rfl) m
@[simp] theorem kd26 : C.kind 26 = .pure := by kernel_rfl
theorem chk26 : bodyChk (T 26) Try.f26 2 = true := by kernel_rfl
theorem body26 (call : CallF) (n : Nat) (m : Mem) (a0 a1 : AVal) : cBody C call (T 26) n 26 [a0, a1] m = fin C [.tmp 4] (cCode C call (T 26) n (codeOf Try.f26) ⟨envOf [a0, a1], m⟩) := cBody_eq Try.func26 chk26 (by kernel_rfl) m
@[simp] theorem kd27 : C.kind 27 = .plain := by kernel_rfl
theorem chk27 : bodyChk (T 27) Try.f27 2 = true := by kernel_rfl
theorem body27 (call : CallF) (n : Nat) (m : Mem) (a0 a1 : AVal) : cBody C call (T 27) n 27 [a0, a1] m = fin C [.tmp 4] (cCode C call (T 27) n (codeOf Try.f27) ⟨envOf [a0, a1], m⟩) := cBody_eq Try.func27 chk27 (by kernel_rfl) m
@[simp] theorem kd28 : C.kind 28 = .plain := by kernel_rfl
theorem chk28 : bodyChk (T 28) Try.f28 2 = true := by kernel_rfl
theorem body28 (call : CallF) (n : Nat) (m : Mem) (a0 a1 : AVal) : cBody C call (T 28) n 28 [a0, a1] m = fin C [.tmp 3] (cCode C call (T 28) n (codeOf Try.f28) ⟨envOf [a0, a1], m⟩) := cBody_eq Try.func28 chk28 (by kernel_rfl) m
@[simp] theorem kd29 : C.kind 29 = .reader := by kernel_rfl
theorem chk29 : bodyChk (T 29) Try.f29 1 = true := by kernel_rfl
theorem body29 (call : CallF) (n : Nat) (m : Mem) (a0 : AVal) : cBody C call (T 29) n 29 [a0] m = fin C [.tmp 2, .tmp 3] (cCode C call (T 29) n (codeOf Try.f29) ⟨envOf [a0], m⟩) := cBody_eq Try.func29 chk29 (by kernel_rfl) m
@[simp] theorem kd30 : C.kind 30 = .pure := by kernel_rfl
theorem chk30 : bodyChk (T 30) Try.f30 4 = true := by kernel_rfl
theorem body30 (call : CallF) (n : Nat) (m : Mem) (a0 a1 a2 a3 : AVal) : cBody C call (T 30) n 30 [a0, a1, a2, a3] m = fin C [.cell 8 43, .tmp 9] (cCode C call (T 30) n (codeOf Try.f30) ⟨envOf [a0, a1, a2, a3], m⟩) := cBody_eq Try.func30 chk30 (by kernel_rfl) m
@[simp] theorem kd31 : C.kind 31 = .pure := by kernel_rfl
theorem chk31 : bodyChk (T 31) Try.f31 1 = true := by kernel_rfl
theorem body31 (call : CallF) (n : Nat) (m : Mem) (a0 : AVal) : cBody C call (T 31) n 31 [a0] m = fin C [.cell 2 43, .tmp 3] (cCode C call (T 31) n (codeOf Try.f31) ⟨envOf [a0], m⟩) := cBody_eq Try.func31 chk31 (by kernel_rfl) m
@[simp] theorem kd32 : C.kind 32 = .pure := by kernel_rfl
theorem chk32 : bodyChk (T 32) Try.f32 1 = true := by kernel_rfl
theorem body32 (call : CallF) (n : Nat) (m : Mem) (a0 : AVal) : cBody C call (T 32) n 32 [a0] m = fin C [.tmp 2] (cCode C call (T 32) n (codeOf Try.f32) ⟨envOf [a0], m⟩) := cBody_eq Try.func32 chk32 (by kernel_rfl) m
@[simp] theorem kd33 : C.kind 33 = .pure := by kernel_rfl
theorem chk33 : bodyChk (T 33) Try.f33 2 = true := by kernel_rfl
theorem body33 (call : CallF) (n : Nat) (m : Mem) (a0 a1 : AVal) : cBody C call (T 33) n 33 [a0, a1] m = fin C [.tmp 4] (cCode C call (T 33) n (codeOf Try.f33) ⟨envOf [a0, a1], m⟩) := cBody_eq Try.func33 chk33 (by kernel_rfl) m
@[simp] theorem kd34 : C.kind 34 = .pure := by kernel_rfl
theorem chk34 : bodyChk (T 34) Try.f34 4 = true := by kernel_rfl
theorem body34 (call : CallF) (n : Nat) (m : Mem) (a0 a1 a2 a3 : AVal) : cBody C call (T 34) n 34 [a0, a1, a2, a3] m = fin C [.tmp 8, .tmp 9] (cCode C call (T 34) n (codeOf Try.f34) ⟨envOf [a0, a1, a2, a3], m⟩) := cBody_eq Try.func34 chk34 (by kernel_rfl) m
@[simp] theorem kd35 : C.kind 35 = .pure := by kernel_rfl
theorem chk35 : bodyChk (T 35) Try.f35 1 = true := by kernel_rfl
theorem body35 (call : CallF) (n : Nat) (m : Mem) (a0 : AVal) : cBody C call (T 35) n 35 [a0] m = fin C [.tmp 2, .tmp 3] (cCode C call (T 35) n (codeOf Try.f35) ⟨envOf [a0], m⟩) := cBody_eq Try.func35 chk35 (by kernel_rfl) m
@[simp] theorem kd36 : C.kind 36 = .pure := by kernel_rfl
theorem chk36 : bodyChk (T 36) Try.f36 3 = true := by kernel_rfl
theorem body36 (call : CallF) (n : Nat) (m : Mem) (a0 a1 a2 : AVal) : cBody C call (T 36) n 36 [a0, a1, a2] m = fin C [.tmp 6] (cCode C call (T 36) n (codeOf Try.f36) ⟨envOf [a0, a1, a2], m⟩) := cBody_eq Try.func36 chk36 (by kernel_rfl) m
@[simp] theorem kd37 : C.kind 37 = .pure := by kernel_rfl
theorem chk37 : bodyChk (T 37) Try.f37 1 = true := by kernel_rfl
theorem body37 (call : CallF) (n : Nat) (m : Mem) (a0 : AVal) : cBody C call (T 37) n 37 [a0] m = fin C [.tmp 2] (cCode C call (T 37) n (codeOf Try.f37) ⟨envOf [a0], m⟩) := cBody_eq Try.func37 chk37 (by kernel_rfl) m
@[simp] theorem kd38 : C.kind 38 = .pure := by kernel_rfl
theorem chk38 : bodyChk (T 38) Try.f38 0 = true := by kernel_rfl
theorem body38 (call : CallF) (n : Nat) (m : Mem) : cBody C call (T 38) n 38 [] m = fin C [.cell 0 91] (cCode C call (T 38) n (codeOf Try.f38) ⟨envOf [], m⟩) := cBody_eq Try.func38 chk38 (by kernel_rfl) m
@[simp] theorem kd39 : C.kind 39 = .pure := by kernel_rfl
theorem chk39 : bodyChk (T 39) Try.f39 2 = true := by kernel_rfl
theorem body39 (call : CallF) (n : Nat) (m : Mem) (a0 a1 : AVal) : cBody C call (T 39) n 39 [a0, a1] m = fin C [.tmp 4, .tmp 5] (cCode C call (T 39) n (codeOf Try.f39) ⟨envOf [a0, a1], m⟩) := cBody_eq Try.func39 chk39 (by kernel_rfl) m
@[simp] theorem kd40 : C.kind 40 = .pure := by kernel_rfl
theorem chk40 : bodyChk (T 40) Try.f40 1 = true := by kernel_rfl
theorem body40 (call : CallF) (n : Nat) (m : Mem) (a0 : AVal) : cBody C call (T 40) n 40 [a0] m = fin C [.tmp 2, .tmp 3] (cCode C call (T 40) n (codeOf Try.f40) ⟨envOf [a0], m⟩) := cBody_eq Try.func40 chk40 (by kernel_rfl) m
@[simp] theorem kd41 : C.kind 41 = .pure := by kernel_rfl
theorem chk41 : bodyChk (T 41) Try.f41 1 = true := by kernel_rfl
theorem body41 (call : CallF) (n : Nat) (m : Mem) (a0 : AVal) : cBody C call (T 41) n 41 [a0] m = fin C [.tmp 2] (cCode C call (T 41) n (codeOf Try.f41) ⟨envOf [a0], m⟩) := cBody_eq Try.func41 chk41 (by kernel_rfl) m
@[simp] theorem kd42 : C.kind 42 = .pure := by kernel_rfl
theorem chk42 : bodyChk (T 42) Try.f42 1 = true := by kernel_rfl
theorem body42 (call : CallF) (n : Nat) (m : Mem) (a0 : AVal) : cBody C call (T 42) n 42 [a0] m = fin C [.tmp 2] (cCode C call (T 42) n (codeOf Try.f42) ⟨envOf [a0], m⟩) := cBody_eq Try.func42 chk42 (by kernel_rfl) m
@[simp] theorem kd43 : C.kind 43 = .plain := by kernel_rfl
theorem chk43 : bodyChk (T 43) Try.f43 2 = true := by kernel_rfl
theorem body43 (call : CallF) (n : Nat) (m : Mem) (a0 a1 : AVal) : cBody C call (T 43) n 43 [a0, a1] m = fin C [.tmp 4] (cCode C call (T 43) n (codeOf Try.f43) ⟨envOf [a0, a1], m⟩) := cBody_eq Try.func43 chk43 (by kernel_rfl) m
@[simp] theorem kd44 : C.kind 44 = .shallow := by kernel_rfl
theorem chk44 : bodyChk (T 44) Try.f44 1 = true := by kernel_rfl
theorem body44 (call : CallF) (n : Nat) (m : Mem) (a0 : AVal) : cBody C call (T 44) n 44 [a0] m = fin C [.tmp 2] (cCode C call (T 44) n (codeOf Try.f44) ⟨envOf [a0], m⟩) := cBody_eq Try.func44 chk44 (by kernel_rfl) m
@[simp] theorem kd45 : C.kind 45 = .pure := by kernel_rfl
theorem chk45 : bodyChk (T 45) Try.f45 2 = true := by kernel_rfl
theorem body45 (call : CallF) (n : Nat) (m : Mem) (a0 a1 : AVal) : cBody C call (T 45) n 45 [a0, a1] m = fin C [.tmp 4] (cCode C call (T 45) n (codeOf Try.f45) ⟨envOf [a0, a1], m⟩) := cBody_eq Try.func45 chk45 (by kernel_rfl) m
@[simp] theorem kd46 : C.kind 46 = .plain := by kernel_rfl
theorem chk46 : bodyChk (T 46) Try.f46 1 = true := by kernel_rfl
theorem body46 (call : CallF) (n : Nat) (m : Mem) (a0 : AVal) : cBody C call (T 46) n 46 [a0] m = fin C [] (cCode C call (T 46) n (codeOf Try.f46) ⟨envOf [a0], m⟩) := cBody_eq Try.func46 chk46 (by kernel_rfl) m
@[simp] theorem kd47 : C.kind 47 = .pure := by kernel_rfl
theorem chk47 : bodyChk (T 47) Try.f47 2 = true := by kernel_rfl
theorem body47 (call : CallF) (n : Nat) (m : Mem) (a0 a1 : AVal) : cBody C call (T 47) n 47 [a0, a1] m = fin C [.tmp 4, .tmp 5] (cCode C call (T 47) n (codeOf Try.f47) ⟨envOf [a0, a1], m⟩) := cBody_eq Try.func47 chk47 (by kernel_rfl) m
@[simp] theorem kd48 : C.kind 48 = .pure := by kernel_rfl
theorem chk48 : bodyChk (T 48) Try.f48 1 = true := by kernel_rfl
theorem body48 (call : CallF) (n : Nat) (m : Mem) (a0 : AVal) : cBody C call (T 48) n 48 [a0] m = fin C [.cell 2 102, .tmp 3] (cCode C call (T 48) n (codeOf Try.f48) ⟨envOf [a0], m⟩) := cBody_eq Try.func48 chk48 (by kernel_rfl) m
@[simp] theorem kd49 : C.kind 49 = .pure := by kernel_rfl
theorem chk49 : bodyChk (T 49) Try.f49 3 = true := by kernel_rfl
theorem body49 (call : CallF) (n : Nat) (m : Mem) (a0 a1 a2 : AVal) : cBody C call (T 49) n 49 [a0, a1, a2] m = fin C [.tmp 6] (cCode C call (T 49) n (codeOf Try.f49) ⟨envOf [a0, a1, a2], m⟩) := cBody_eq Try.func49 chk49 (by kernel_rfl) m
@[simp] theorem kd50 : C.kind 50 = .plain := by kernel_rfl
theorem chk50 : bodyChk (T 50) Try.f50 1 = true := by kernel_rfl
theorem body50 (call : CallF) (n : Nat) (m : Mem) (a0 : AVal) : cBody C call (T 50) n 50 [a0] m = fin C [.tmp 2] (cCode C call (T 50) n (codeOf Try.f50) ⟨envOf [a0], m⟩) := cBody_eq Try.func50 chk50 (by kernel_rfl) m
@[simp] theorem kd51 : C.kind 51 = .pure := by kernel_rfl
theorem chk51 : bodyChk (T 51) Try.f51 1 = true := by kernel_rfl
theorem body51 (call : CallF) (n : Nat) (m : Mem) (a0 : AVal) : cBody C call (T 51) n 51 [a0] m = fin C [.cell 2 94] (cCode C call (T 51) n (codeOf Try.f51) ⟨envOf [a0], m⟩) := cBody_eq Try.func51 chk51 (by kernel_rfl) m
@[simp] theorem kd52 : C.kind 52 = .plain := by kernel_rfl
theorem chk52 : bodyChk (T 52) Try.f52 2 = true := by kernel_rfl
theorem body52 (call : CallF) (n : Nat) (m : Mem) (a0 a1 : AVal) : cBody C call (T 52) n 52 [a0, a1] m = fin C [.tmp 4] (cCode C call (T 52) n (codeOf Try.f52) ⟨envOf [a0, a1], m⟩) := cBody_eq Try.func52 chk52 (by kernel_rfl) m
@[simp] theorem kd53 : C.kind 53 = .pure := by kernel_rfl
theorem chk53 : bodyChk (T 53) Try.f53 1 = true := by kernel_rfl
theorem body53 (call : CallF) (n : Nat) (m : Mem) (a0 : AVal) : cBody C call (T 53) n 53 [a0] m = fin C [.tmp 2] (cCode C call (T 53) n (codeOf Try.f53) ⟨envOf [a0], m⟩) := cBody_eq Try.func53 chk53 (by kernel_rfl) m
@[simp] theorem kd54 : C.kind 54 = .pure := by kernel_rfl
theorem chk54 : bodyChk (T 54) Try.f54 1 = true := by kernel_rfl
theorem body54 (call : CallF) (n : Nat) (m : Mem) (a0 : AVal) : cBody C call (T 54) n 54 [a0] m = fin C [.tmp 2] (cCode C call (T 54) n (codeOf Try.f54) ⟨envOf [a0], m⟩) := cBody_eq Try.func54 chk54 (by kernel_rfl) m
@[simp] theorem kd55 : C.kind 55 = .pure := by kernel_rfl
theorem chk55 : bodyChk (T 55) Try.f55 1 = true := by kernel_rfl
theorem body55 (call : CallF) (n : Nat) (m : Mem) (a0 : AVal) : cBody C call (T 55) n 55 [a0] m = fin C [.tmp 2] (cCode C call (T 55) n (codeOf Try.f55) ⟨envOf [a0], m⟩) := cBody_eq Try.func55 chk55 (by kernel_rfl) m
@[simp] theorem kd56 : C.kind 56 = .pure := by kernel_rfl
theorem chk56 : bodyChk (T 56) Try.f56 3 = true := by kernel_rfl
theorem body56 (call : CallF) (n : Nat) (m : Mem) (a0 a1 a2 : AVal) : cBody C call (T 56) n 56 [a0, a1, a2] m = fin C [.tmp 6] (cCode C call (T 56) n (codeOf Try.f56) ⟨envOf [a0, a1, a2], m⟩) := cBody_eq Try.func56 chk56 (by kernel_rfl) m
@[simp] theorem kd57 : C.kind 57 = .plain := by kernel_rfl
theorem chk57 : bodyChk (T 57) Try.f57 2 = true := by kernel_rfl
theorem body57 (call : CallF) (n : Nat) (m : Mem) (a0 a1 : AVal) : cBody C call (T 57) n 57 [a0, a1] m = fin C [.tmp 4] (cCode C call (T 57) n (codeOf Try.f57) ⟨envOf [a0, a1], m⟩) := cBody_eq Try.func57 chk57 (by kernel_rfl) m
@[simp] theorem kd58 : C.kind 58 = .plain := by kernel_rfl
theorem chk58 : bodyChk (T 58) Try.f58 2 = true := by kernel_rfl
theorem body58 (call : CallF) (n : Nat) (m : Mem) (a0 a1 : AVal) : cBody C call (T 58) n 58 [a0, a1] m = fin C [.tmp 3] (cCode C call (T 58) n (codeOf Try.f58) ⟨envOf [a0, a1], m⟩) := cBody_eq Try.func58 chk58 (by kernel_rfl) m
@[simp] theorem kd59 : C.kind 59 = .pure := by kernel_rfl
theorem chk59 : bodyChk (T 59) Try.f59 1 = true := by kernel_rfl
theorem body59 (call : CallF) (n : Nat) (m : Mem) (a0 : AVal) : cBody C call (T 59) n 59 [a0] m = fin C [.tmp 2] (cCode C call (T 59) n (codeOf Try.f59) ⟨envOf [a0], m⟩) := cBody_eq Try.func59 chk59 (by kernel_rfl) m
@[simp] theorem kd60 : C.kind 60 = .pure := by kernel_rfl
theorem chk60 : bodyChk (T 60) Try.f60 1 = true := by kernel_rfl
theorem body60 (call : CallF) (n : Nat) (m : Mem) (a0 : AVal) : cBody C call (T 60) n 60 [a0] m = fin C [.tmp 2] (cCode C call (T 60) n (codeOf Try.f60) ⟨envOf [a0], m⟩) := cBody_eq Try.func60 chk60 (by kernel_rfl) m
@[simp] theorem kd61 : C.kind 61 = .pure := by kernel_rfl
theorem chk61 : bodyChk (T 61) Try.f61 2 = true := by kernel_rfl
theorem body61 (call : CallF) (n : Nat) (m : Mem) (a0 a1 : AVal) : cBody C call (T 61) n 61 [a0, a1] m = fin C [.tmp 4, .tmp 5] (cCode C call (T 61) n (codeOf Try.f61) ⟨envOf [a0, a1], m⟩) := cBody_eq Try.func61 chk61 (by kernel_rfl) m
@[simp] theorem kd62 : C.kind 62 = .pure := by kernel_rfl
theorem chk62 : bodyChk (T 62) Try.f62 2 = true := by kernel_rfl
theorem body62 (call : CallF) (n : Nat) (m : Mem) (a0 a1 : AVal) : cBody C call (T 62) n 62 [a0, a1] m = fin C [.tmp 4, .tmp 5] (cCode C call (T 62) n (codeOf Try.f62) ⟨envOf [a0, a1], m⟩) := cBody_eq Try.func62 chk62 (by kernel_rfl) m
@[simp] theorem kd63 : C.kind 63 = .pure := by kernel_rfl
theorem chk63 : bodyChk (T 63) Try.f63 1 = true := by kernel_rfl
theorem body63 (call : CallF) (n : Nat) (m : Mem) (a0 : AVal) : cBody C call (T 63) n 63 [a0] m = fin C [.tmp 2] (cCode C call (T 63) n (codeOf Try.f63) ⟨envOf [a0], m⟩) := cBody_eq Try.func63 chk63 (by kernel_rfl) m
@[simp] theorem kd64 : C.kind 64 = .plain := by kernel_rfl
theorem chk64 : bodyChk (T 64) Try.f64 2 = true := by kernel_rfl
theorem body64 (call : CallF) (n : Nat) (m : Mem) (a0 a1 : AVal) : cBody C call (T 64) n 64 [a0, a1] m = fin C [.tmp 4] (cCode C call (T 64) n (codeOf Try.f64) ⟨envOf [a0, a1], m⟩) := cBody_eq Try.func64 chk64 (by kernel_rfl) m
@[simp] theorem kd65 : C.kind 65 = .plain := by kernel_rfl
theorem chk65 : bodyChk (T 65) Try.f65 3 = true := by kernel_rfl
theorem body65 (call : CallF) (n : Nat) (m : Mem) (a0 a1 a2 : AVal) : cBody C call (T 65) n 65 [a0, a1, a2] m = fin C [.tmp 6] (cCode C call (T 65) n (codeOf Try.f65) ⟨envOf [a0, a1, a2], m⟩) := cBody_eq Try.func65 chk65 (by kernel_rfl) m
@[simp] theorem kd66 : C.kind 66 = .shallow := by kernel_rfl
theorem chk66 : bodyChk (T 66) Try.f66 1 = true := by kernel_rfl
theorem body66 (call : CallF) (n : Nat) (m : Mem) (a0 : AVal) : cBody C call (T 66) n 66 [a0] m = fin C [.tmp 2] (cCode C call (T 66) n (codeOf Try.f66) ⟨envOf [a0], m⟩) := cBody_eq Try.func66 chk66 (by kernel_rfl) m
@[simp] theorem kd67 : C.kind 67 = .pure := by kernel_rfl
theorem chk67 : bodyChk (T 67) Try.f67 1 = true := by kernel_rfl
theorem body67 (call : CallF) (n : Nat) (m : Mem) (a0 : AVal) : cBody C call (T 67) n 67 [a0] m = fin C [.tmp 2] (cCode C call (T 67) n (codeOf Try.f67) ⟨envOf [a0], m⟩) := cBody_eq Try.func67 chk67 (by kernel_rfl) m
@[simp] theorem kd68 : C.kind 68 = .pure := by kernel_rfl
theorem chk68 : bodyChk (T 68) Try.f68 1 = true := by kernel_rfl
theorem body68 (call : CallF) (n : Nat) (m : Mem) (a0 : AVal) : cBody C call (T 68) n 68 [a0] m = fin C [.tmp 2] (cCode C call (T 68) n (codeOf Try.f68) ⟨envOf [a0], m⟩) := cBody_eq Try.func68 chk68 (by kernel_rfl) m
@[simp] theorem kd69 : C.kind 69 = .pure := by kernel_rfl
theorem chk69 : bodyChk (T 69) Try.f69 2 = true := by kernel_rfl
theorem body69 (call : CallF) (n : Nat) (m : Mem) (a0 a1 : AVal) : cBody C call (T 69) n 69 [a0, a1] m = fin C [.tmp 4] (cCode C call (T 69) n (codeOf Try.f69) ⟨envOf [a0, a1], m⟩) := cBody_eq Try.func69 chk69 (by kernel_rfl) m
@[simp] theorem kd70 : C.kind 70 = .pure := by kernel_rfl
theorem chk70 : bodyChk (T 70) Try.f70 2 = true := by kernel_rfl
theorem body70 (call : CallF) (n : Nat) (m : Mem) (a0 a1 : AVal) : cBody C call (T 70) n 70 [a0, a1] m = fin C [.tmp 4] (cCode C call (T 70) n (codeOf Try.f70) ⟨envOf [a0, a1], m⟩) := cBody_eq Try.func70 chk70 (by kernel_rfl) m
@[simp] theorem kd71 : C.kind 71 = .plain := by kernel_rfl
theorem chk71 : bodyChk (T 71) Try.f71 2 = true := by kernel_rfl
theorem body71 (call : CallF) (n : Nat) (m : Mem) (a0 a1 : AVal) : cBody C call (T 71) n 71 [a0, a1] m = fin C [.tmp 4] (cCode C call (T 71) n (codeOf Try.f71) ⟨envOf [a0, a1], m⟩) := cBody_eq Try.func71 chk71 (by kernel_rfl) m
@[simp] theorem kd72 : C.kind 72 = .plain := by kernel_rfl
theorem chk72 : bodyChk (T 72) Try.f72 2 = true := by kernel_rfl
theorem body72 (call : CallF) (n : Nat) (m : Mem) (a0 a1 : AVal) : cBody C call (T 72) n 72 [a0, a1] m = fin C [.tmp 4] (cCode C call (T 72) n (codeOf Try.f72) ⟨envOf [a0, a1], m⟩) := cBody_eq Try.func72 chk72 (by kernel_rfl) m
@[simp] theorem kd73 : C.kind 73 = .plain := by kernel_rfl
theorem chk73 : bodyChk (T 73) Try.f73 2 = true := by kernel_rfl
theorem body73 (call : CallF) (n : Nat) (m : Mem) (a0 a1 : AVal) : cBody C call (T 73) n 73 [a0, a1] m = fin C [.tmp 4] (cCode C call (T 73) n (codeOf Try.f73) ⟨envOf [a0, a1], m⟩) := cBody_eq Try.func73 chk73 (by kernel_rfl) m
@[simp] theorem kd74 : C.kind 74 = .plain := by kernel_rfl
theorem chk74 : bodyChk (T 74) Try.f74 2 = true := by kernel_rfl
theorem body74 (call : CallF) (n : Nat) (m : Mem) (a0 a1 : AVal) : cBody C call (T 74) n 74 [a0, a1] m = fin C [.tmp 3] (cCode C call (T 74) n (codeOf Try.f74) ⟨envOf [a0, a1], m⟩) := cBody_eq Try.func74 chk74 (by kernel_rfl) m
@[simp] theorem kd75 : C.kind 75 = .pure := by kernel_rfl
theorem chk75 : bodyChk (T 75) Try.f75 2 = true := by kernel_rfl
theorem body75 (call : CallF) (n : Nat) (m : Mem) (a0 a1 : AVal) : cBody C call (T 75) n 75 [a0, a1] m = fin C [.tmp 4, .tmp 5] (cCode C call (T 75) n (codeOf Try.f75) ⟨envOf [a0, a1], m⟩) := cBody_eq Try.func75 chk75 (by kernel_rfl) m
@[simp] theorem kd76 : C.kind 76 = .plain := by kernel_rfl
theorem chk76 : bodyChk (T 76) Try.f76 3 = true := by kernel_rfl
theorem body76 (call : CallF) (n : Nat) (m : Mem) (a0 a1 a2 : AVal) : cBody C call (T 76) n 76 [a0, a1, a2] m = fin C [.tmp 5] (cCode C call (T 76) n (codeOf Try.f76) ⟨envOf [a0, a1, a2], m⟩) := cBody_eq Try.func76 chk76 (by kernel_rfl) m
@[simp] theorem kd77 : C.kind 77 = .pure := by kernel_rfl
theorem chk77 : bodyChk (T 77) Try.f77 1 = true := by kernel_rfl
theorem body77 (call : CallF) (n : Nat) (m : Mem) (a0 : AVal) : cBody C call (T 77) n 77 [a0] m = fin C [.tmp 2] (cCode C call (T 77) n (codeOf Try.f77) ⟨envOf [a0], m⟩) := cBody_eq Try.func77 chk77 (by kernel_rfl) m
@[simp] theorem kd78 : C.kind 78 = .pure := by kernel_rfl
theorem chk78 : bodyChk (T 78) Try.f78 1 = true := by kernel_rfl
theorem body78 (call : CallF) (n : Nat) (m : Mem) (a0 : AVal) : cBody C call (T 78) n 78 [a0] m = fin C [.tmp 2] (cCode C call (T 78) n (codeOf Try.f78) ⟨envOf [a0], m⟩) := cBody_eq Try.func78 chk78 (by kernel_rfl) m
@[simp] theorem kd79 : C.kind 79 = .pure := by kernel_rfl
theorem chk79 : bodyChk (T 79) Try.f79 1 = true := by kernel_rfl
theorem body79 (call : CallF) (n : Nat) (m : Mem) (a0 : AVal) : cBody C call (T 79) n 79 [a0] m = fin C [.tmp 2, .tmp 3] (cCode C call (T 79) n (codeOf Try.f79) ⟨envOf [a0], m⟩) := cBody_eq Try.func79 chk79 (by kernel_rfl) m
end Go.Proofs.Ytmfdjipijifabab
end
