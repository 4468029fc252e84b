/- Part 1 of a proof in many texts, put together: definitions and lemmas. The theorem stands in the last text; no conditions. -/
import Derived.Below
import Derived.Calls
import Derived.Laws.Append
import Derived.Laws.AppendOwn
import Derived.Laws.Build
import Derived.Laws.CopyRow
import Derived.Laws.MakeOwn
import Derived.Laws.Slices
import Derived.Orders
section
/- The abstract machine, first part: abstract values, the abstract memory, and what they stand for in the model's worlds. It holds for every program; nothing is assumed. -/
set_option linter.unusedVariables false
namespace Go.Ab

/-- Abstract values. 'imm', 'iptr': slices and pointers into memory that never changes again, written out. 'own', 'ptr': into the abstract memory. 'emp': a slice of length and capacity 0. 'tup []' stands for the undefined value. -/
inductive AVal where
  | junk
  | int (k : IntKind) (n : Int)
  | bool (b : Bool)
  | str (s : ByteArray)
  | ptr (id off : Nat)
  | iptr (cs : List AVal)
  | nilp
  | nils
  | emp
  | imm (n : Nat) (cs : List AVal)
  | own (id off n sz : Nat)
  | fn (f : FuncId) (first captured : List AVal)
  | agg (cs : List AVal)
  | tup (vs : List AVal)
  deriving Inhabited

def AVal.cells : AVal → List AVal
  | .agg cs => cs
  | a => [a]

def AVal.ofCell : Value → AVal
  | .int k n => .int k n
  | .bool b => .bool b
  | .string s => .str s
  | .pointer none => .nilp
  | .slice none 0 0 => .nils
  | _ => .junk

def AVal.ofValue : Value → AVal
  | .agg cs => if cs.toList.all Value.oneCell' then .agg (cs.toList.map AVal.ofCell) else .junk
  | v => AVal.ofCell v

def AVal.concCell : AVal → Option Value
  | .int k n => some (.int k n)
  | .bool b => some (.bool b)
  | .str s => some (.string s)
  | .nilp => some (.pointer none)
  | .nils => some (.slice none 0 0)
  | _ => none

def concList : List AVal → Option (List Value)
  | [] => some []
  | a :: r => match a.concCell, concList r with
    | some v, some vs => some (v :: vs)
    | _, _ => none

def AVal.conc : AVal → Option Value
  | .agg cs => (concList cs).map fun vs => .agg vs.toArray
  | a => a.concCell

/-- What may be stored into one cell. -/
def AVal.one : AVal → Bool
  | .junk | .agg _ | .tup _ => false
  | _ => true

inductive Md where
  | dead | rw | ro
  deriving DecidableEq, Inhabited

structure Mem where
  cell : Nat → Nat → Option AVal
  mode : Nat → Md
  siz : Nat → Nat
  next : Nat

structure St where
  env : Nat → AVal
  mem : Mem

abbrev Ren := Nat → Option (Nat × Nat)

/-- An immutable value, as the model has it: what it leads to lies in blocks of I. -/
inductive VI (I : Nat → Prop) (w : World) : AVal → Value → Prop
  | junk (v : Value) : VI I w .junk v
  | int (k : IntKind) (n : Int) : VI I w (.int k n) (.int k n)
  | bool (b : Bool) : VI I w (.bool b) (.bool b)
  | str (s : ByteArray) : VI I w (.str s) (.string s)
  | nilp : VI I w .nilp (.pointer none)
  | nils : VI I w .nils (.slice none 0 0)
  | emp (a : Option Addr) : VI I w .emp (.slice a 0 0)
  | imm0 (a : Option Addr) (c : Nat) : VI I w (.imm 0 []) (.slice a 0 c)
  | imm (n c b o : Nat) (cs : List AVal) (vs : Nat → Value) (hI : I b) (hn : n ≤ c)
      (h1 : ∀ (j : Nat) (a : AVal), cs[j]? = some a → w.cell? ⟨b, o + j, none⟩ = some (vs j) ∧ (vs j).oneCell' = true)
      (h2 : ∀ (j : Nat) (a : AVal), cs[j]? = some a → VI I w a (vs j)) : VI I w (.imm n cs) (.slice (some ⟨b, o, none⟩) n c)
  | iptr (b o : Nat) (cs : List AVal) (vs : Nat → Value) (hI : I b)
      (h1 : ∀ (j : Nat) (a : AVal), cs[j]? = some a → w.cell? ⟨b, o + j, none⟩ = some (vs j) ∧ (vs j).oneCell' = true)
      (h2 : ∀ (j : Nat) (a : AVal), cs[j]? = some a → VI I w a (vs j)) : VI I w (.iptr cs) (.pointer (some ⟨b, o, none⟩))
  | fn (f : FuncId) (xs ys : List AVal) (vs us : Array Value) (l1 : xs.length = vs.size) (l2 : ys.length = us.size)
      (h1 : ∀ (j : Nat) (a : AVal) (v : Value), xs[j]? = some a → vs[j]? = some v → VI I w a v)
      (h2 : ∀ (j : Nat) (a : AVal) (v : Value), ys[j]? = some a → us[j]? = some v → VI I w a v) : VI I w (.fn f xs ys) (.func (.func f) vs us)
  | agg (xs : List AVal) (vs : Array Value) (l1 : xs.length = vs.size) (h3 : ∀ (j : Nat) (v : Value), vs[j]? = some v → v.oneCell' = true)
      (h1 : ∀ (j : Nat) (a : AVal) (v : Value), xs[j]? = some a → vs[j]? = some v → VI I w a v) : VI I w (.agg xs) (.agg vs)
  | tup (xs : List AVal) (vs : Array Value) (l1 : xs.length = vs.size)
      (h1 : ∀ (j : Nat) (a : AVal) (v : Value), xs[j]? = some a → vs[j]? = some v → VI I w a v) : VI I w (.tup xs) (.tuple vs)

/-- A value, as the model has it. -/
inductive VR (ρ : Ren) (I : Nat → Prop) (w : World) : AVal → Value → Prop
  | vi (a : AVal) (v : Value) (h : VI I w a v) : VR ρ I w a v
  | ptr (id off b base : Nat) (h : ρ id = some (b, base)) : VR ρ I w (.ptr id off) (.pointer (some ⟨b, base + off, none⟩))
  | own0 (id off sz : Nat) (a : Option Addr) (x : Nat × Nat) (h : ρ id = some x) : VR ρ I w (.own id off 0 sz) (.slice a 0 0)
  | own (id off n sz c b base : Nat) (cur : Array Value) (e : TypeId) (fr : Nat × Nat) (h : ρ id = some (b, base))
      (hb : w.heap[b]? = some (.cells cur e fr)) (hn : n ≤ c) (hc : base + off + c * sz ≤ cur.size) :
      VR ρ I w (.own id off n sz) (.slice (some ⟨b, base + off, none⟩) n c)
  | fn (f : FuncId) (xs ys : List AVal) (vs us : Array Value) (l1 : xs.length = vs.size) (l2 : ys.length = us.size)
      (h1 : ∀ (j : Nat) (a : AVal) (v : Value), xs[j]? = some a → vs[j]? = some v → VR ρ I w a v)
      (h2 : ∀ (j : Nat) (a : AVal) (v : Value), ys[j]? = some a → us[j]? = some v → VR ρ I w a v) : VR ρ I w (.fn f xs ys) (.func (.func f) vs us)
  | agg (xs : List AVal) (vs : Array Value) (l1 : xs.length = vs.size) (h3 : ∀ (j : Nat) (v : Value), vs[j]? = some v → v.oneCell' = true)
      (h1 : ∀ (j : Nat) (a : AVal) (v : Value), xs[j]? = some a → vs[j]? = some v → VR ρ I w a v) : VR ρ I w (.agg xs) (.agg vs)
  | tup (xs : List AVal) (vs : Array Value) (l1 : xs.length = vs.size)
      (h1 : ∀ (j : Nat) (a : AVal) (v : Value), xs[j]? = some a → vs[j]? = some v → VR ρ I w a v) : VR ρ I w (.tup xs) (.tuple vs)

/-- Pointwise. -/
def VRs (ρ : Ren) (I : Nat → Prop) (w : World) (xs : List AVal) (vs : List Value) : Prop :=
  xs.length = vs.length ∧ ∀ (j : Nat) (a : AVal) (v : Value), xs[j]? = some a → vs[j]? = some v → VR ρ I w a v

/-- Each of them takes one cell. -/
def OneCells (vs : List Value) : Prop := ∀ (j : Nat) (v : Value), vs[j]? = some v → v.oneCell' = true

/-- Old rows stay rows, of the same size and type. -/
def Grows (w w' : World) : Prop := ∀ (b : Nat) (cur : Array Value) (e : TypeId) (fr : Nat × Nat), w.heap[b]? = some (.cells cur e fr) →
  ∃ (cur' : Array Value) (fr' : Nat × Nat), w'.heap[b]? = some (.cells cur' e fr') ∧ cur'.size = cur.size

structure Ext (ρ : Ren) (I : Nat → Prop) (w : World) (ρ' : Ren) (I' : Nat → Prop) (w' : World) : Prop where
  rho : ∀ (id : Nat) (x : Nat × Nat), ρ id = some x → ρ' id = some x
  sub : ∀ (b : Nat), I b → I' b
  keep : ∀ (b : Nat), I b → w'.heap[b]? = w.heap[b]?
  grows : Grows w w'

theorem Grows.refl (w : World) : Grows w w := fun _ cur _ fr h => ⟨cur, fr, h, rfl⟩
theorem Grows.trans {w w' w'' : World} (h : Grows w w') (h' : Grows w' w'') : Grows w w'' := fun b cur e fr hb => by
  obtain ⟨c1, f1, h1, e1⟩ := h b cur e fr hb
  obtain ⟨c2, f2, h2, e2⟩ := h' b c1 e f1 h1
  exact ⟨c2, f2, h2, e2.trans e1⟩
theorem Ext.refl (ρ : Ren) (I : Nat → Prop) (w : World) : Ext ρ I w ρ I w := ⟨fun _ _ h => h, fun _ h => h, fun _ _ => rfl, Grows.refl w⟩
theorem Ext.trans {ρ ρ' ρ'' : Ren} {I I' I'' : Nat → Prop} {w w' w'' : World} (h : Ext ρ I w ρ' I' w') (h' : Ext ρ' I' w' ρ'' I'' w'') : Ext ρ I w ρ'' I'' w'' :=
  ⟨fun id x hx => h'.rho id x (h.rho id x hx), fun b hb => h'.sub b (h.sub b hb), fun b hb => (h'.keep b (h.sub b hb)).trans (h.keep b hb), h.grows.trans h'.grows⟩

theorem VI.ext {I I' : Nat → Prop} {w w' : World} {a : AVal} {v : Value} (h : VI I w a v) (hs : ∀ b, I b → I' b) (hk : ∀ b, I b → w'.heap[b]? = w.heap[b]?) : VI I' w' a v := by
  induction h with
  | junk v => exact .junk v
  | int k n => exact .int k n
  | bool b => exact .bool b
  | str s => exact .str s
  | nilp => exact .nilp
  | nils => exact .nils
  | emp a => exact .emp a
  | imm0 a c => exact .imm0 a c
  | imm n c b o cs vs hI hn h1 h2 ih =>
    exact .imm n c b o cs vs (hs _ hI) hn (fun j a hj => ⟨(World.cell?_of_block (a := ⟨b, o + j, none⟩) (hk b hI)).trans (h1 j a hj).1, (h1 j a hj).2⟩) ih
  | iptr b o cs vs hI h1 h2 ih =>
    exact .iptr b o cs vs (hs _ hI) (fun j a hj => ⟨(World.cell?_of_block (a := ⟨b, o + j, none⟩) (hk b hI)).trans (h1 j a hj).1, (h1 j a hj).2⟩) ih
  | fn f xs ys vs us l1 l2 h1 h2 i1 i2 => exact .fn f xs ys vs us l1 l2 i1 i2
  | agg xs vs l1 h3 h1 ih => exact .agg xs vs l1 h3 ih
  | tup xs vs l1 h1 ih => exact .tup xs vs l1 ih

theorem VR.ext {ρ ρ' : Ren} {I I' : Nat → Prop} {w w' : World} {a : AVal} {v : Value} (h : VR ρ I w a v) (e : Ext ρ I w ρ' I' w') : VR ρ' I' w' a v := by
  induction h with
  | vi a v h => exact .vi a v (h.ext e.sub e.keep)
  | ptr id off b base h => exact .ptr id off b base (e.rho _ _ h)
  | own0 id off sz a x h => exact .own0 id off sz a x (e.rho _ _ h)
  | own id off n sz c b base cur el fr h hb hn hc =>
    obtain ⟨cur', fr', hb', hs⟩ := e.grows b cur el fr hb
    exact .own id off n sz c b base cur' el fr' (e.rho _ _ h) hb' hn (by omega)
  | fn f xs ys vs us l1 l2 h1 h2 i1 i2 => exact .fn f xs ys vs us l1 l2 i1 i2
  | agg xs vs l1 h3 h1 ih => exact .agg xs vs l1 h3 ih
  | tup xs vs l1 h1 ih => exact .tup xs vs l1 ih

theorem VRs.ext {ρ ρ' : Ren} {I I' : Nat → Prop} {w w' : World} {xs : List AVal} {vs : List Value} (h : VRs ρ I w xs vs) (e : Ext ρ I w ρ' I' w') : VRs ρ' I' w' xs vs :=
  ⟨h.1, fun j a v ha hv => (h.2 j a v ha hv).ext e⟩

section inv
variable {ρ : Ren} {I : Nat → Prop} {w : World} {v : Value}
theorem VR.int_inv {k : IntKind} {n : Int} (h : VR ρ I w (.int k n) v) : v = .int k n := by cases h with | vi _ _ h => cases h; rfl
theorem VR.bool_inv {b : Bool} (h : VR ρ I w (.bool b) v) : v = .bool b := by cases h with | vi _ _ h => cases h; rfl
theorem VR.str_inv {s : ByteArray} (h : VR ρ I w (.str s) v) : v = .string s := by cases h with | vi _ _ h => cases h; rfl
theorem VR.nilp_inv (h : VR ρ I w .nilp v) : v = .pointer none := by cases h with | vi _ _ h => cases h; rfl
theorem VR.nils_inv (h : VR ρ I w .nils v) : v = .slice none 0 0 := by cases h with | vi _ _ h => cases h; rfl
theorem VR.emp_inv (h : VR ρ I w .emp v) : ∃ a, v = .slice a 0 0 := by cases h with | vi _ _ h => cases h; exact ⟨_, rfl⟩
theorem VR.imm_inv {n : Nat} {cs : List AVal} (h : VR ρ I w (.imm n cs) v) : VI I w (.imm n cs) v := by cases h with | vi _ _ h => exact h
theorem VR.iptr_inv {cs : List AVal} (h : VR ρ I w (.iptr cs) v) : VI I w (.iptr cs) v := by cases h with | vi _ _ h => exact h
theorem VR.ptr_inv {id off : Nat} (h : VR ρ I w (.ptr id off) v) : ∃ b base, ρ id = some (b, base) ∧ v = .pointer (some ⟨b, base + off, none⟩) := by
  cases h with
  | vi _ _ h => cases h
  | ptr _ _ b base h => exact ⟨b, base, h, rfl⟩
theorem VR.agg_inv {xs : List AVal} (h : VR ρ I w (.agg xs) v) : ∃ vs : Array Value, v = .agg vs ∧ VRs ρ I w xs vs.toList ∧ OneCells vs.toList := by
  cases h with
  | vi _ _ h => cases h with | agg _ vs l1 h3 h1 => exact ⟨vs, rfl, ⟨by simpa using l1, fun j a v ha hv => .vi _ _ (h1 j a v ha (by simpa using hv))⟩, fun j v hv => h3 j v (by simpa using hv)⟩
  | agg _ vs l1 h3 h1 => exact ⟨vs, rfl, ⟨by simpa using l1, fun j a v ha hv => h1 j a v ha (by simpa using hv)⟩, fun j v hv => h3 j v (by simpa using hv)⟩
theorem VR.tup_inv {xs : List AVal} (h : VR ρ I w (.tup xs) v) : ∃ vs : Array Value, v = .tuple vs ∧ VRs ρ I w xs vs.toList := by
  cases h with
  | vi _ _ h => cases h with | tup _ vs l1 h1 => exact ⟨vs, rfl, by simpa using l1, fun j a v ha hv => .vi _ _ (h1 j a v ha (by simpa using hv))⟩
  | tup _ vs l1 h1 => exact ⟨vs, rfl, by simpa using l1, fun j a v ha hv => h1 j a v ha (by simpa using hv)⟩
theorem VR.fn_inv {f : FuncId} {xs ys : List AVal} (h : VR ρ I w (.fn f xs ys) v) :
    ∃ vs us : Array Value, v = .func (.func f) vs us ∧ VRs ρ I w xs vs.toList ∧ VRs ρ I w ys us.toList := by
  cases h with
  | vi _ _ h => cases h with
    | fn _ _ _ vs us l1 l2 h1 h2 => exact ⟨vs, us, rfl, ⟨by simpa using l1, fun j a v ha hv => .vi _ _ (h1 j a v ha (by simpa using hv))⟩, ⟨by simpa using l2, fun j a v ha hv => .vi _ _ (h2 j a v ha (by simpa using hv))⟩⟩
  | fn _ _ _ vs us l1 l2 h1 h2 => exact ⟨vs, us, rfl, ⟨by simpa using l1, fun j a v ha hv => h1 j a v ha (by simpa using hv)⟩, ⟨by simpa using l2, fun j a v ha hv => h2 j a v ha (by simpa using hv)⟩⟩
end inv

theorem VR.agg_mk {ρ : Ren} {I : Nat → Prop} {w : World} {xs : List AVal} {vs : Array Value} (h : VRs ρ I w xs vs.toList) (h1 : OneCells vs.toList) : VR ρ I w (.agg xs) (.agg vs) :=
  .agg xs vs (by simpa using h.1) (fun j v hv => h1 j v (by simpa using hv)) fun j a v ha hv => h.2 j a v ha (by simpa using hv)
theorem VR.tup_mk {ρ : Ren} {I : Nat → Prop} {w : World} {xs : List AVal} {vs : Array Value} (h : VRs ρ I w xs vs.toList) : VR ρ I w (.tup xs) (.tuple vs) :=
  .tup xs vs (by simpa using h.1) fun j a v ha hv => h.2 j a v ha (by simpa using hv)

theorem VI.ofCell (I : Nat → Prop) (w : World) (v : Value) : VI I w (AVal.ofCell v) v := by
  unfold AVal.ofCell; split <;> first | exact .int _ _ | exact .bool _ | exact .str _ | exact .nilp | exact .nils | exact .junk _

theorem VI.ofValue (I : Nat → Prop) (w : World) (v : Value) : VI I w (AVal.ofValue v) v := by
  unfold AVal.ofValue
  split
  · rename_i cs
    split
    case isFalse => exact .junk _
    rename_i hall
    refine .agg _ cs (by simp) (fun j v hv => List.all_eq_true.1 hall v (List.mem_of_getElem? (by simpa using hv))) fun j a v ha hv => ?_
    simp only [List.getElem?_map, Array.getElem?_toList, hv, Option.map_some, Option.some.injEq] at ha
    subst ha
    exact VI.ofCell I w v
  · exact VI.ofCell I w v

theorem VR.concCell_eq {ρ : Ren} {I : Nat → Prop} {w : World} {a : AVal} {v u : Value} (h : VR ρ I w a v) (hc : a.concCell = some u) : v = u := by
  unfold AVal.concCell at hc
  split at hc
  · cases hc; exact h.int_inv
  · cases hc; exact h.bool_inv
  · cases hc; exact h.str_inv
  · cases hc; exact h.nilp_inv
  · cases hc; exact h.nils_inv
  · cases hc

theorem VRs.conc_eq {ρ : Ren} {I : Nat → Prop} {w : World} : ∀ {xs : List AVal} {vs us : List Value}, VRs ρ I w xs vs → concList xs = some us → vs = us
  | [], vs, us, h, hc => by
    simp only [concList, Option.some.injEq] at hc
    subst hc
    exact List.eq_nil_of_length_eq_zero (by simpa using h.1.symm)
  | a :: r, vs, us, h, hc => by
    cases vs with
    | nil => simp [VRs] at h
    | cons v vs =>
      simp only [concList] at hc
      split at hc
      · rename_i u us' hu hus
        cases hc
        have h0 := (h.2 0 a v rfl rfl).concCell_eq hu
        have hr : VRs ρ I w r vs := ⟨by simpa using h.1, fun j a v ha hv => h.2 (j + 1) a v (by simpa using ha) (by simpa using hv)⟩
        rw [h0, hr.conc_eq hus]
      · cases hc

theorem VR.conc_eq {ρ : Ren} {I : Nat → Prop} {w : World} {a : AVal} {v u : Value} (h : VR ρ I w a v) (hc : a.conc = some u) : v = u := by
  unfold AVal.conc at hc
  split at hc
  · rename_i cs
    obtain ⟨vs, rfl, hvs, _⟩ := h.agg_inv
    cases hl : concList cs with
    | none => simp [hl] at hc
    | some us =>
      simp only [hl, Option.map_some, Option.some.injEq] at hc
      subst hc
      rw [← hvs.conc_eq hl]
  · exact h.concCell_eq hc

theorem VR.one_cell {ρ : Ren} {I : Nat → Prop} {w : World} {a : AVal} {v : Value} (h : VR ρ I w a v) (ho : a.one = true) : v.oneCell' = true := by
  cases h with
  | vi _ _ h => cases h <;> first | rfl | simp [AVal.one] at ho
  | ptr | own0 | own | fn => rfl
  | agg | tup => simp [AVal.one] at ho

/-- A value that has cells. -/
def AVal.whole : AVal → Bool
  | .junk | .tup _ => false
  | _ => true

theorem AVal.whole_cases {a : AVal} (h : a.whole = true) : a.one = true ∨ ∃ cs, a = .agg cs := by
  cases a <;> first | exact .inl rfl | exact .inr ⟨_, rfl⟩ | simp [AVal.whole] at h

theorem VR.cells {ρ : Ren} {I : Nat → Prop} {w : World} {a : AVal} {v : Value} (h : VR ρ I w a v) (hk : a.whole = true) : VRs ρ I w a.cells v.cells.toList ∧ OneCells v.cells.toList := by
  rcases AVal.whole_cases hk with hk | ⟨cs, rfl⟩
  · have hv := h.one_cell hk
    have e1 : a.cells = [a] := by cases a <;> first | rfl | simp [AVal.one] at hk
    have e2 : v.cells = #[v] := by cases v <;> first | rfl | simp [Value.oneCell'] at hv
    rw [e1, e2]
    refine ⟨⟨rfl, fun j x u hx hu => ?_⟩, fun j u hu => ?_⟩
    · cases j with
      | zero => simp at hx hu; subst hx; subst hu; exact h
      | succ j => simp at hx
    · cases j with
      | zero => simp at hu; subst hu; exact hv
      | succ j => simp at hu
  · obtain ⟨vs, rfl, hvs, h1⟩ := h.agg_inv
    exact ⟨hvs, h1⟩

/-- A run that asks nothing of memory. -/
def pureRun {α : Type} (P : Program) : Sem α → Option α
  | .pure a => some a
  | .program k => pureRun P (k P)
  | .mark _ k => pureRun P k
  | _ => none

theorem pureRun_run {α : Type} (P : Program) : ∀ (x : Sem α) (a : α) (w : World), pureRun P x = some a → x.run P w = .ok a w := by
  intro x
  induction x with
  | pure b => intro a w h; simp only [pureRun, Option.some.injEq] at h; subst h; rfl
  | program k ih => intro a w h; simp only [pureRun] at h; exact ih P a w h
  | mark m k ih => intro a w h; simp only [pureRun] at h; exact ih a w h
  | _ => intros; rename_i h; simp [pureRun] at h

end Go.Ab
end
section
/- The abstract machine, second part: what each operation does to abstract values and the abstract memory. Definitions alone; nothing is claimed here. -/
set_option linter.unusedVariables false
namespace Go.Ab

/-- How a function is called. plain: over the caller's memory · pure: over immutable arguments and the globals alone, its result made immutable · shallow: over the memory that its arguments name themselves · ext: by a contract that is proved elsewhere. -/
inductive Kind where
  | plain | pure | shallow | reader
  | ext (g : List AVal → Option AVal)

structure Cfg where
  P : Program
  ng : Nat
  glob : Nat → List AVal
  kind : FuncId → Kind

def Cfg.m0 (C : Cfg) : Mem where
  cell := fun i o => if i < C.ng then (C.glob i)[o]? else none
  mode := fun i => if i < C.ng ∧ C.glob i ≠ [] then .ro else .dead
  siz := fun i => (C.glob i).length
  next := C.ng

def opd (C : Cfg) (env : Nat → AVal) : Operand → AVal
  | .tmp t => env t
  | .const v => AVal.ofValue v
  | .global g => if g < C.ng then .ptr g 0 else .junk
  | .func f => .fn f [] []

def upd {α : Type} (f : Nat → α) (i : Nat) (x : α) : Nat → α := fun j => if j = i then x else f j

def isAggT (P : Program) (t : TypeId) : Option Bool :=
  match P.underlying t with
  | some (.struct _) | some (.array _ _) => some true
  | some _ => some false
  | none => none

def sizeT (P : Program) (t : TypeId) : Option Nat := (P.info? t).map (·.size)

def cellsAt (m : Mem) (id : Nat) : Nat → Nat → Option (List AVal)
  | _, 0 => some []
  | off, n + 1 => match m.cell id off, cellsAt m id (off + 1) n with
    | some a, some r => some (a :: r)
    | _, _ => none

def loadA (P : Program) (t : TypeId) (a : AVal) (m : Mem) : Option AVal :=
  match isAggT P t, sizeT P t with
  | some true, some n => match a with
    | .ptr id off => if m.mode id = .dead then none else (cellsAt m id off n).map .agg
    | .iptr cs => if n ≤ cs.length then some (.agg (cs.take n)) else none
    | _ => none
  | some false, some _ => match a with
    | .ptr id off => if m.mode id = .dead then none else m.cell id off
    | .iptr cs => cs[0]?
    | _ => none
  | _, _ => none

def writeCells (m : Mem) (id off : Nat) (cs : List AVal) : Mem :=
  { m with cell := fun i o => if i = id ∧ off ≤ o ∧ o < off + cs.length then cs[o - off]? else m.cell i o }

def storeA (P : Program) (t : TypeId) (a x : AVal) (m : Mem) : Option Mem :=
  match a, sizeT P t with
  | .ptr id off, some n =>
    if x.whole = true ∧ x.cells.length = n ∧ 0 < n ∧ m.mode id = .rw then
      match cellsAt m id off n with
      | some _ => some (writeCells m id off x.cells)
      | none => none
    else none
  | _, _ => none

def newBlk (m : Mem) (id : Nat) (cs : List AVal) : Mem where
  cell := fun i o => if i = id then cs[o]? else m.cell i o
  mode := upd m.mode id .rw
  siz := upd m.siz id cs.length
  next := m.next

/-- The cells of a type's zero value. -/
def zeroA (P : Program) (t : TypeId) : Option (List AVal) :=
  match (P.info? t).bind (·.zero) with
  | some z => if z.cells.toList.all Value.oneCell' then some (z.cells.toList.map AVal.ofCell) else none
  | none => none

def allocA (P : Program) (t : TypeId) (m : Mem) (new : Nat) : Option (AVal × Mem) :=
  match zeroA P t with
  | some z => if m.mode new = .dead then some (.ptr new 0, newBlk m new z) else none
  | none => none

def boxA (x : AVal) (m : Mem) (new : Nat) : Option (AVal × Mem) :=
  if x.whole = true ∧ m.mode new = .dead then some (.ptr new 0, newBlk m new x.cells) else none

def setRange (cs : List AVal) (off : Nat) (xs : List AVal) : List AVal := cs.take off ++ xs ++ cs.drop (off + xs.length)

def fillA (place : Nat → Option (Nat × Nat)) (cells : List AVal) : List (Nat × AVal) → Option (List AVal)
  | [] => some cells
  | (i, x) :: r => match place i with
    | some (off, size) => if x.whole = true ∧ x.cells.length = size ∧ off + x.cells.length ≤ cells.length then fillA place (setRange cells off x.cells) r else none
    | none => none

def placesA (P : Program) : List Field → Option (List (Nat × Nat))
  | [] => some []
  | f :: r => match sizeT P f.type, placesA P r with
    | some n, some l => some ((f.offset, n) :: l)
    | _, _ => none

def partsA (C : Cfg) (env : Nat → AVal) (parts : List (Nat × Operand)) : List (Nat × AVal) := parts.map fun p => (p.1, opd C env p.2)

def buildA (P : Program) (t : TypeId) (parts : List (Nat × AVal)) : Option AVal :=
  match zeroA P t with
  | some z => match P.underlying t with
    | some (.struct fs) => match placesA P fs.toList with
      | some pl => (fillA (pl[·]?) z parts).map .agg
      | none => none
    | some (.array _ e) => match sizeT P e with
      | some n => (fillA (fun i => some (i * n, n)) z parts).map .agg
      | none => none
    | _ => none
  | none => none

/-- n cells of zero values. -/
def zeros (z : List AVal) (n : Nat) : List AVal := (List.range n).map fun i => z.getD (i % z.length) .junk

def buildSliceA (P : Program) (t : TypeId) (len : Nat) (parts : List (Nat × AVal)) (m : Mem) (new : Nat) : Option (AVal × Mem) :=
  match P.underlying t with
  | some (.slice e) => match sizeT P e, zeroA P e with
    | some n, some z =>
      if len * n ≤ 16777216 ∧ z.length = n ∧ m.mode new = .dead then
        match fillA (fun i => some (i * n, n)) (zeros z (len * n)) parts with
        | some cs => some (.own new 0 len n, newBlk m new cs)
        | none => none
      else none
    | _, _ => none
  | _ => none

def makeSliceA (P : Program) (t : TypeId) (l c : AVal) (m : Mem) (new : Nat) : Option (AVal × Mem) :=
  match P.underlying t, l, c with
  | some (.slice e), .int _ l, .int _ c => match P.info? e, zeroA P e with
    | some i, some z =>
      if 0 ≤ l ∧ l ≤ c ∧ c * (i.bytes : Int) ≤ 281474976710656 ∧ c ≤ 9223372036854775807 ∧ z.length = i.size ∧ m.mode new = .dead then
        some (.own new 0 l.toNat i.size, newBlk m new (zeros z (l.toNat * i.size)))
      else none
    | _, _ => none
  | _, _, _ => none

def boundA (y : Nat) : AVal → Option Nat
  | .int _ i => if 0 ≤ i ∧ i ≤ y then some i.toNat else none
  | _ => none

/-- The bounds of a slice expression: low, high, and the bound of its capacity where one is given. -/
def boundsA (n : Nat) (lo hi mx : Option AVal) : Option (Nat × Nat × Option Nat) :=
  match mx with
  | some v => match boundA n v, hi with
    | some m, some v => match boundA m v with
      | some h => match lo with
        | some v => (boundA h v).map fun l => (l, h, some m)
        | none => some (0, h, some m)
      | none => none
    | _, _ => none
  | none =>
    match (match hi with | some v => boundA n v | none => some n) with
    | some h => match lo with
      | some v => (boundA h v).map fun l => (l, h, none)
      | none => some (0, h, none)
    | none => none

def sliceA (P : Program) (t : TypeId) (x : AVal) (lo hi mx : Option AVal) (m : Mem) : Option AVal :=
  match P.underlying t with
  | some (.slice e) => match sizeT P e with
    | some sz => match x with
      | .nils => match boundsA 0 lo hi mx with | some _ => some .nils | none => none
      | .emp => match boundsA 0 lo hi mx with | some _ => some .emp | none => none
      | .imm n cs => match boundsA n lo hi mx with
        | some (l, h, none) => some (.imm (h - l) ((cs.drop (l * sz)).take ((h - l) * sz)))
        | some (l, h, some k) => if k = l then some .emp else some (.imm (h - l) ((cs.drop (l * sz)).take ((h - l) * sz)))
        | none => none
      | .own id off n s => if s = sz then match boundsA n lo hi mx with
        | some (l, h, none) => some (.own id (off + l * sz) (h - l) sz)
        | some (l, h, some k) => if k = l then some .emp else some (.own id (off + l * sz) (h - l) sz)
        | none => none
        else none
      | _ => none
    | none => none
  | some (.array n e) => match sizeT P e with
    | some sz => match x, boundsA n lo hi mx with
      | .ptr id off, some (l, h, none) => if m.mode id ≠ .dead ∧ off + n * sz ≤ m.siz id then some (.own id (off + l * sz) (h - l) sz) else none
      | .iptr cs, some (l, h, none) => some (.imm (h - l) ((cs.drop (l * sz)).take ((h - l) * sz)))
      | _, _ => none
    | none => none
  | some .string => match x, boundsA (match x with | .str s => s.size | _ => 0) lo hi mx with
    | .str s, some (l, h, none) => some (.str (s.extract l h))
    | _, _ => none
  | _ => none

def fieldAddrA (P : Program) (s : TypeId) (x : AVal) (f : Nat) : Option AVal :=
  match P.underlying s with
  | some (.struct fs) => match fs[f]? with
    | some fd => match sizeT P fd.type with
      | some n => if n = 0 then none else match x with
        | .ptr id off => some (.ptr id (off + fd.offset))
        | .iptr cs => some (.iptr (cs.drop fd.offset))
        | _ => none
      | none => none
    | none => none
  | _ => none

def partA (P : Program) (t : TypeId) (cs : List AVal) (off : Nat) : Option AVal :=
  match isAggT P t, sizeT P t with
  | some true, some n => if off + n ≤ cs.length then some (.agg ((cs.drop off).take n)) else none
  | some false, some _ => cs[off]?
  | _, _ => none

def fieldA (P : Program) (s : TypeId) (x : AVal) (f : Nat) : Option AVal :=
  match P.underlying s, x with
  | some (.struct fs), .agg cs => match fs[f]? with
    | some fd => partA P fd.type cs fd.offset
    | none => none
  | _, _ => none

def indexAddrA (P : Program) (t : TypeId) (x ix : AVal) : Option AVal :=
  match ix with
  | .int _ i => match P.underlying t with
    | some (.array n e) => match sizeT P e, x with
      | some sz, .ptr id off => if 0 ≤ i ∧ i < n then some (.ptr id (off + i.toNat * sz)) else none
      | some sz, .iptr cs => if 0 ≤ i ∧ i < n then some (.iptr (cs.drop (i.toNat * sz))) else none
      | _, _ => none
    | some (.slice e) => match sizeT P e, x with
      | some sz, .own id off n s => if s = sz ∧ 0 ≤ i ∧ i < n then some (.ptr id (off + i.toNat * sz)) else none
      | some sz, .imm n cs => if 0 ≤ i ∧ i < n then some (.iptr (cs.drop (i.toNat * sz))) else none
      | _, _ => none
    | _ => none
  | _ => none

def indexA (P : Program) (t : TypeId) (x ix : AVal) : Option AVal :=
  match ix, P.underlying t, x with
  | .int _ i, some (.array n e), .agg cs => match sizeT P e with
    | some sz => if 0 ≤ i ∧ i < n then partA P e cs (i.toNat * sz) else none
    | none => none
  | .int _ i, some .string, .str s => if 0 ≤ i then match s[i.toNat]? with
      | some b => some (.int .u8 b.toNat)
      | none => none
    else none
  | _, _, _ => none

def extractA (x : AVal) (i : Nat) : Option AVal :=
  match x with
  | .tup vs => vs[i]?
  | _ => none

/-- The elements of a slice: how many, and their cells. -/
def elemsA (sz : Nat) (x : AVal) (m : Mem) : Option (Nat × List AVal) :=
  match x with
  | .nils | .emp => some (0, [])
  | .imm n cs => if cs.length = n * sz then some (n, cs) else none
  | .own id off n s => if s = sz ∧ m.mode id ≠ .dead then (cellsAt m id off (n * sz)).map fun cs => (n, cs) else none
  | _ => none

def appendA (P : Program) (t t' : TypeId) (s x : AVal) (m : Mem) (new : Nat) : Option (AVal × Mem) :=
  match P.underlying t, P.underlying t' with
  | some (.slice e), some (.slice _) => match P.info? e with
    | some i => match zeroA P e, elemsA i.size x m with
      | some z, some (k, news) =>
        if z.length = i.size ∧ 0 < i.size ∧ m.mode new = .dead then
          match s with
          | .nils => if k = 0 then some (.nils, m) else if k * i.bytes ≤ 140737488355328 ∧ k ≤ maxLen then some (.own new 0 k i.size, newBlk m new news) else none
          | .emp => if k = 0 then some (.emp, m) else if k * i.bytes ≤ 140737488355328 ∧ k ≤ maxLen then some (.own new 0 k i.size, newBlk m new news) else none
          | .own id off n sz =>
            if sz = i.size ∧ m.mode id = .rw ∧ id ≠ new ∧ off + n * sz = m.siz id ∧ (n + k) * i.bytes ≤ 140737488355328 ∧ n + k ≤ maxLen then
              match cellsAt m id off (n * sz) with
              | some olds => some (.own new 0 (n + k) sz, { newBlk m new (olds ++ news) with mode := upd (upd m.mode id .dead) new .rw })
              | none => none
            else none
          | _ => none
        else none
      | _, _ => none
    | none => none
  | _, _ => none

def lenA (P : Program) (t : TypeId) (x : AVal) : Option AVal :=
  match P.underlying t, x with
  | some (.slice _), .own _ _ n _ => some (.int .i64 n)
  | some (.slice _), .imm n _ => some (.int .i64 n)
  | some (.slice _), .nils => some (.int .i64 0)
  | some (.slice _), .emp => some (.int .i64 0)
  | some .string, .str s => some (.int .i64 s.size)
  | some (.array n _), _ => some (.int .i64 n)
  | _, _ => none

/-- The operators on numbers. -/
def binInt (op : BinOp) (k : IntKind) (a b : Int) : Option AVal :=
  match op with
  | .add => some (.int k (k.wrap (a + b)))
  | .sub => some (.int k (k.wrap (a - b)))
  | .mul => some (.int k (k.wrap (a * b)))
  | .eql => some (.bool (a == b))
  | .neq => some (.bool (a != b))
  | .lss => some (.bool (decide (a < b)))
  | .leq => some (.bool (decide (a ≤ b)))
  | .gtr => some (.bool (decide (b < a)))
  | .geq => some (.bool (decide (b ≤ a)))
  | .quo => if b = 0 then none else some (.int k (k.wrap (a.tdiv b)))
  | .rem => if b = 0 then none else some (.int k (a.tmod b))
  | _ => none

/-- The operators on numbers and truth values, as far as they are told at once. -/
def binA (P : Program) (op : BinOp) (t : TypeId) (x y : AVal) : Option AVal :=
  match x, y with
  | .int k a, .int k' b => match op with
    | .shl => if b < 0 then none else some (.int k (k.wrap (a * 2 ^ min b.toNat k.bits)))
    | .shr => if b < 0 then none else some (.int k (a.fdiv (2 ^ min b.toNat k.bits)))
    | _ => if k = k' then binInt op k a b else none
  | .bool a, .bool b => match P.underlying t, op with
    | some .bool, .eql => some (.bool (a == b))
    | some .bool, .neq => some (.bool (!(a == b)))
    | _, _ => none
  | .imm n _, .nils => if 0 < n then (match P.underlying t, op with
    | some (.slice _), .eql => some (.bool false)
    | some (.slice _), .neq => some (.bool true)
    | _, _ => none) else none
  | _, _ => none

/-- Any operation that asks nothing of memory, on plain operands. -/
def genericA (C : Cfg) (o : Oper) (env : Nat → AVal) : Option AVal :=
  if o.op.operands.toList.all fun x => ((opd C env x).conc).isSome then
    match pureRun C.P (execOp (fun x => ((opd C env x).conc).getD undef) o) with
    | some (.value v) => some (AVal.ofValue v)
    | _ => none
  else none

def builtinA (C : Cfg) (b : Builtin) (ts : List TypeId) (xs : List AVal) (m : Mem) (new : Nat) : Option (AVal × Mem) :=
  match b, ts, xs with
  | .append, [t, t'], [s, x] => appendA C.P t t' s x m new
  | .len, [t], [x] => (lenA C.P t x).map (·, m)
  | .min, _, [.int k a, .int _ b] => some (.int k (if b < a then b else a), m)
  | .max, _, [.int k a, .int _ b] => some (.int k (if b > a then b else a), m)
  | _, _, _ => none

def aOp (C : Cfg) (o : Oper) (env : Nat → AVal) (m : Mem) (new : Nat) : Option (AVal × Mem) :=
  match o.op with
  | .move x | .assign x => some (opd C env x, m)
  | .pick c a b => match opd C env c with
    | .bool t => some (if t then opd C env a else opd C env b, m)
    | _ => none
  | .alloc t => allocA C.P t m new
  | .box t x => boxA (opd C env x) m new
  | .build t parts => (buildA C.P t (partsA C env parts.toList)).map (·, m)
  | .buildSlice t len parts => buildSliceA C.P t len (partsA C env parts.toList) m new
  | .load t a => (loadA C.P t (opd C env a) m).map (·, m)
  | .store t a x => (storeA C.P t (opd C env a) (opd C env x) m).map (.tup [], ·)
  | .nilCheck x => match opd C env x with
    | .ptr id off => some (.ptr id off, m)
    | .iptr cs => some (.iptr cs, m)
    | .fn f a b => some (.fn f a b, m)
    | _ => none
  | .makeFunc fn first captured => match fn with
    | .func f => some (.fn f (first.toList.map (opd C env)) (captured.toList.map (opd C env)), m)
    | _ => none
  | .makeSlice t l c => makeSliceA C.P t (opd C env l) (opd C env c) m new
  | .slice t x lo hi mx => (sliceA C.P t (opd C env x) (lo.map (opd C env)) (hi.map (opd C env)) (mx.map (opd C env)) m).map (·, m)
  | .fieldAddr s x f => (fieldAddrA C.P s (opd C env x) f).map (·, m)
  | .field s x f => (fieldA C.P s (opd C env x) f).map (·, m)
  | .indexAddr t x ix => (indexAddrA C.P t (opd C env x) (opd C env ix)).map (·, m)
  | .index t x ix => (indexA C.P t (opd C env x) (opd C env ix)).map (·, m)
  | .extract x i => (extractA (opd C env x) i).map (·, m)
  | .call c => match c.callee with
    | .builtin b => builtinA C b c.argTypes.toList (c.args.toList.map (opd C env)) m new
    | _ => none
  | .binOp op t x y _ => match binA C.P op t (opd C env x) (opd C env y) with
    | some r => some (r, m)
    | none => (genericA C o env).map (·, m)
  | .unOp op _ x => match op, opd C env x with
    | .not, .bool b => some (.bool (!b), m)
    | .neg, .int k n => some (.int k (k.wrap (0 - n)), m)
    | _, _ => (genericA C o env).map (·, m)
  | .convert src dst x => match C.P.underlying src, C.P.underlying dst, opd C env x with
    | some _, some (.int k), .int _ n => some (.int k (k.wrap n), m)
    | _, _, _ => (genericA C o env).map (·, m)
  | _ => none

end Go.Ab
end
section
/- The abstract machine, third part: the abstract memory stands for the model's; reading, making and writing rows. -/
set_option linter.unusedVariables false
namespace Go.Ab

structure MemR (ρ : Ren) (I : Nat → Prop) (w : World) (m : Mem) : Prop where
  cells : ∀ (id off : Nat) (a : AVal), m.mode id ≠ .dead → m.cell id off = some a →
    ∃ (b base : Nat) (v : Value), ρ id = some (b, base) ∧ w.cell? ⟨b, base + off, none⟩ = some v ∧ v.oneCell' = true ∧ VR ρ I w a v
  rw : ∀ (id : Nat), m.mode id = .rw → ∃ (b base : Nat) (cur : Array Value) (e : TypeId), ρ id = some (b, base) ∧ ¬ I b ∧ w.heap[b]? = some (.cells cur e (0, 0)) ∧ base + m.siz id ≤ cur.size
  ro : ∀ (id : Nat), m.mode id = .ro → ∃ (b base : Nat) (cur : Array Value) (e : TypeId) (fr : Nat × Nat), ρ id = some (b, base) ∧ I b ∧ w.heap[b]? = some (.cells cur e fr) ∧ base + m.siz id ≤ cur.size
  inj : ∀ (id id' b base base' : Nat), m.mode id = .rw → m.mode id' = .rw → ρ id = some (b, base) → ρ id' = some (b, base') → id = id'
  imm : ∀ (b : Nat), I b → b < w.heap.size

def Owned (ρ : Ren) (m : Mem) (b : Nat) : Prop := ∃ id base, m.mode id = .rw ∧ ρ id = some (b, base)

/-- From one state to a later one: what was there and is not written by right stays as it was. -/
structure Fr (ρ : Ren) (I : Nat → Prop) (m : Mem) (w : World) (ρ' : Ren) (I' : Nat → Prop) (m' : Mem) (w' : World) : Prop where
  ext : Ext ρ I w ρ' I' w'
  size : w.heap.size ≤ w'.heap.size
  same : ∀ (b : Nat), b < w.heap.size → ¬ Owned ρ m b → w'.heap[b]? = w.heap[b]?
  owns : ∀ (b : Nat), b < w.heap.size → Owned ρ' m' b → Owned ρ m b
  news : ∀ (b : Nat), b < w.heap.size → I' b → I b ∨ Owned ρ m b
  os : w'.os = w.os
  tape : w'.tape = w.tape
  output : w'.output = w.output

theorem Fr.refl (ρ : Ren) (I : Nat → Prop) (m : Mem) (w : World) : Fr ρ I m w ρ I m w :=
  ⟨Ext.refl _ _ _, Nat.le_refl _, fun _ _ _ => rfl, fun _ _ h => h, fun _ _ h => .inl h, rfl, rfl, rfl⟩

theorem Fr.trans {ρ ρ' ρ'' : Ren} {I I' I'' : Nat → Prop} {m m' m'' : Mem} {w w' w'' : World} (h : Fr ρ I m w ρ' I' m' w') (k : Fr ρ' I' m' w' ρ'' I'' m'' w'') :
    Fr ρ I m w ρ'' I'' m'' w'' where
  ext := h.ext.trans k.ext
  size := Nat.le_trans h.size k.size
  same := fun b hb hn => (k.same b (Nat.lt_of_lt_of_le hb h.size) (fun ho => hn (h.owns b hb ho))).trans (h.same b hb hn)
  owns := fun b hb ho => h.owns b hb (k.owns b (Nat.lt_of_lt_of_le hb h.size) ho)
  news := fun b hb hi => (k.news b (Nat.lt_of_lt_of_le hb h.size) hi).elim (h.news b hb) (fun ho => .inr (h.owns b hb ho))
  os := k.os.trans h.os
  tape := k.tape.trans h.tape
  output := k.output.trans h.output

theorem heap_lt {w : World} {b : Nat} {o : Obj} (h : w.heap[b]? = some o) : b < w.heap.size := (Array.getElem?_eq_some_iff.1 h).1

theorem cell_row {w : World} {b o : Nat} {cur : Array Value} {e : TypeId} {fr : Nat × Nat} (h : w.heap[b]? = some (.cells cur e fr)) : w.cell? ⟨b, o, none⟩ = cur[o]? :=
  cell_of_row w b o cur e fr h

theorem MemR.live {ρ : Ren} {I : Nat → Prop} {w : World} {m : Mem} (h : MemR ρ I w m) {id : Nat} (hl : m.mode id ≠ .dead) :
    ∃ (b base : Nat) (cur : Array Value) (e : TypeId) (fr : Nat × Nat), ρ id = some (b, base) ∧ w.heap[b]? = some (.cells cur e fr) ∧ base + m.siz id ≤ cur.size := by
  cases hm : m.mode id with
  | dead => exact absurd hm hl
  | rw => obtain ⟨b, base, cur, e, h1, _, h2, h3⟩ := h.rw id hm; exact ⟨b, base, cur, e, (0, 0), h1, h2, h3⟩
  | ro => obtain ⟨b, base, cur, e, fr, h1, _, h2, h3⟩ := h.ro id hm; exact ⟨b, base, cur, e, fr, h1, h2, h3⟩

/-- The memory of a later state, where only the world has turned, and only in what no owner holds. -/
theorem MemR.ext {ρ ρ' : Ren} {I I' : Nat → Prop} {w w' : World} {m : Mem} (h : MemR ρ I w m) (e : Ext ρ I w ρ' I' w')
    (hs : ∀ (b : Nat), Owned ρ m b → w'.heap[b]? = w.heap[b]?) (hi : ∀ (b : Nat), I' b → b < w'.heap.size) (hn : ∀ (b : Nat), Owned ρ m b → ¬ I' b) : MemR ρ' I' w' m := by
  have keep : ∀ (id b base : Nat), m.mode id ≠ .dead → ρ id = some (b, base) → w'.heap[b]? = w.heap[b]? := by
    intro id b base hl hr
    cases hm : m.mode id with
    | dead => exact absurd hm hl
    | rw => exact hs b ⟨id, base, hm, hr⟩
    | ro =>
      obtain ⟨b', base', cur, el, fr, h1, h2, _⟩ := h.ro id hm
      rw [hr] at h1
      cases h1
      exact e.keep b h2
  refine ⟨?_, ?_, ?_, ?_, hi⟩
  · intro id off a hl ha
    obtain ⟨b, base, v, h1, h2, h3, h4⟩ := h.cells id off a hl ha
    exact ⟨b, base, v, e.rho _ _ h1, (World.cell?_of_block (a := ⟨b, base + off, none⟩) (keep id b base hl h1)).trans h2, h3, h4.ext e⟩
  · intro id hm
    obtain ⟨b, base, cur, el, h1, h2, h3, h4⟩ := h.rw id hm
    exact ⟨b, base, cur, el, e.rho _ _ h1, hn b ⟨id, base, hm, h1⟩, (keep id b base (by simp [hm]) h1).trans h3, h4⟩
  · intro id hm
    obtain ⟨b, base, cur, el, fr, h1, h2, h3, h4⟩ := h.ro id hm
    exact ⟨b, base, cur, el, fr, e.rho _ _ h1, e.sub b h2, (keep id b base (by simp [hm]) h1).trans h3, h4⟩
  · intro id id' b base base' hm hm' h1 h2
    obtain ⟨b1, base1, _, _, g1, _⟩ := h.rw id hm
    obtain ⟨b2, base2, _, _, g2, _⟩ := h.rw id' hm'
    have e1 := e.rho _ _ g1
    have e2 := e.rho _ _ g2
    rw [h1] at e1
    rw [h2] at e2
    cases e1
    cases e2
    exact h.inj id id' b base base' hm hm' g1 g2

theorem drew_ext (ρ : Ren) (I : Nat → Prop) (w : World) : Ext ρ I w ρ I w.drew := ⟨fun _ _ h => h, fun _ h => h, fun _ _ => rfl, fun b cur e fr h => ⟨cur, fr, h, rfl⟩⟩
theorem MemR.drew {ρ : Ren} {I : Nat → Prop} {w : World} {m : Mem} (h : MemR ρ I w m) : MemR ρ I w.drew m :=
  h.ext (drew_ext ρ I w) (fun _ _ => rfl) h.imm (fun b ho hi => by
    obtain ⟨id, base, hm, hr⟩ := ho
    obtain ⟨b', base', _, _, h1, h2, _⟩ := h.rw id hm
    rw [hr] at h1
    cases h1
    exact h2 hi)
theorem Fr.drew {ρ : Ren} {I : Nat → Prop} {w : World} {m : Mem} : Fr ρ I m w ρ I m w.drew :=
  ⟨drew_ext ρ I w, Nat.le_refl _, fun _ _ _ => rfl, fun _ _ h => h, fun _ _ h => .inl h, rfl, rfl, rfl⟩

theorem VRs.cons {ρ : Ren} {I : Nat → Prop} {w : World} {a : AVal} {v : Value} {xs : List AVal} {vs : List Value} (h : VR ρ I w a v) (h' : VRs ρ I w xs vs) : VRs ρ I w (a :: xs) (v :: vs) := by
  refine ⟨by simp [h'.1], fun j x u hx hu => ?_⟩
  cases j with
  | zero => simp at hx hu; subst hx; subst hu; exact h
  | succ j => exact h'.2 j x u (by simpa using hx) (by simpa using hu)
theorem OneCells.cons {v : Value} {vs : List Value} (h : v.oneCell' = true) (h' : OneCells vs) : OneCells (v :: vs) := by
  intro j u hu
  cases j with
  | zero => simp at hu; subst hu; exact h
  | succ j => exact h' j u (by simpa using hu)
theorem VRs.nil (ρ : Ren) (I : Nat → Prop) (w : World) : VRs ρ I w [] [] := ⟨rfl, fun j a v h => by simp at h⟩
theorem OneCells.nil : OneCells [] := fun j v h => by simp at h
theorem VRs.append {ρ : Ren} {I : Nat → Prop} {w : World} {xs ys : List AVal} {vs us : List Value} (h : VRs ρ I w xs vs) (h' : VRs ρ I w ys us) : VRs ρ I w (xs ++ ys) (vs ++ us) := by
  refine ⟨by simp [h.1, h'.1], fun j a v ha hv => ?_⟩
  rw [List.getElem?_append] at ha hv
  rw [← h.1] at hv
  split at ha
  · rename_i hj; rw [if_pos hj] at hv; exact h.2 j a v ha hv
  · rename_i hj; rw [if_neg hj] at hv; exact h'.2 _ a v ha hv
theorem OneCells.append {vs us : List Value} (h : OneCells vs) (h' : OneCells us) : OneCells (vs ++ us) := by
  intro j v hv
  rw [List.getElem?_append] at hv
  split at hv
  · exact h j v hv
  · exact h' _ v hv
theorem VRs.take {ρ : Ren} {I : Nat → Prop} {w : World} {xs : List AVal} {vs : List Value} (h : VRs ρ I w xs vs) (n : Nat) : VRs ρ I w (xs.take n) (vs.take n) := by
  refine ⟨by simp [h.1], fun j a v ha hv => ?_⟩
  rw [List.getElem?_take] at ha hv
  split at ha
  · rename_i hj; rw [if_pos hj] at hv; exact h.2 j a v ha hv
  · cases ha
theorem VRs.drop {ρ : Ren} {I : Nat → Prop} {w : World} {xs : List AVal} {vs : List Value} (h : VRs ρ I w xs vs) (n : Nat) : VRs ρ I w (xs.drop n) (vs.drop n) := by
  refine ⟨by simp [h.1], fun j a v ha hv => ?_⟩
  rw [List.getElem?_drop] at ha hv
  exact h.2 _ a v ha hv
theorem OneCells.take {vs : List Value} (h : OneCells vs) (n : Nat) : OneCells (vs.take n) := by
  intro j v hv
  rw [List.getElem?_take] at hv
  split at hv
  · exact h j v hv
  · cases hv
theorem OneCells.drop {vs : List Value} (h : OneCells vs) (n : Nat) : OneCells (vs.drop n) := by
  intro j v hv
  rw [List.getElem?_drop] at hv
  exact h _ v hv

/-- What is read of the abstract memory lies in the world. -/
theorem cellsAt_spec {ρ : Ren} {I : Nat → Prop} {w : World} {m : Mem} (h : MemR ρ I w m) {id b base : Nat} (hl : m.mode id ≠ .dead) (hr : ρ id = some (b, base)) :
    ∀ (n off : Nat) (cs : List AVal), cellsAt m id off n = some cs → cs.length = n ∧ ∃ vs : List Value, VRs ρ I w cs vs ∧ OneCells vs ∧
      ∀ (j : Nat) (v : Value), vs[j]? = some v → w.cell? ⟨b, base + off + j, none⟩ = some v := by
  intro n
  induction n with
  | zero =>
    intro off cs hc
    simp only [cellsAt, Option.some.injEq] at hc
    subst hc
    exact ⟨rfl, [], VRs.nil _ _ _, OneCells.nil, fun j v hv => by simp at hv⟩
  | succ n ih =>
    intro off cs hc
    simp only [cellsAt] at hc
    split at hc
    · rename_i a r ha hr'
      cases hc
      obtain ⟨b', base', v, h1, h2, h3, h4⟩ := h.cells id off a hl ha
      rw [hr] at h1
      cases h1
      obtain ⟨hlen, vs, g1, g2, g3⟩ := ih (off + 1) r hr'
      refine ⟨by simp [hlen], v :: vs, VRs.cons h4 g1, OneCells.cons h3 g2, fun j u hu => ?_⟩
      cases j with
      | zero => simp at hu; subst hu; exact h2
      | succ j =>
        have := g3 j u (by simpa using hu)
        rw [show base + off + (j + 1) = base + (off + 1) + j from by omega]
        exact this
    · cases hc

theorem VI.row {I : Nat → Prop} {w : World} {b o : Nat} : ∀ (cs : List AVal) (vs : Nat → Value)
    (h1 : ∀ (j : Nat) (a : AVal), cs[j]? = some a → w.cell? ⟨b, o + j, none⟩ = some (vs j) ∧ (vs j).oneCell' = true)
    (h2 : ∀ (j : Nat) (a : AVal), cs[j]? = some a → VI I w a (vs j)) (ρ : Ren),
    ∃ us : List Value, us.length = cs.length ∧ VRs ρ I w cs us ∧ OneCells us ∧ ∀ (j : Nat) (v : Value), us[j]? = some v → w.cell? ⟨b, o + j, none⟩ = some v := by
  intro cs vs h1 h2 ρ
  have get : ∀ j v, ((List.range cs.length).map vs)[j]? = some v → ∃ a, cs[j]? = some a ∧ v = vs j := by
    intro j v hv
    have hlt : j < cs.length := by simpa using (List.getElem?_eq_some_iff.1 hv).1
    simp only [List.getElem?_map, List.getElem?_range hlt, Option.map_some, Option.some.injEq] at hv
    exact ⟨cs[j], List.getElem?_eq_getElem hlt, hv.symm⟩
  refine ⟨(List.range cs.length).map vs, by simp, ⟨by simp, fun j a v ha hv => ?_⟩, fun j v hv => ?_, fun j v hv => ?_⟩
  · obtain ⟨a', ha', rfl⟩ := get j v hv
    exact .vi _ _ (h2 j a ha)
  · obtain ⟨a', ha', rfl⟩ := get j v hv
    exact (h1 j a' ha').2
  · obtain ⟨a', ha', rfl⟩ := get j v hv
    exact (h1 j a' ha').1

/-- A row that is made. -/
theorem MemR.alloc {ρ : Ren} {I : Nat → Prop} {w : World} {m : Mem} (h : MemR ρ I w m) {new : Nat} (hnew : ρ new = none) (hd : m.mode new = .dead)
    {cs : List AVal} {cur : Array Value} {e : TypeId} (hv : VRs ρ I w cs (cur.toList.take cs.length)) (h1 : OneCells (cur.toList.take cs.length)) :
    MemR (upd ρ new (some (w.heap.size, 0))) I (w.alloc (.cells cur e)) (newBlk m new cs) ∧
    Fr ρ I m w (upd ρ new (some (w.heap.size, 0))) I (newBlk m new cs) (w.alloc (.cells cur e)) := by
  have hE : Ext ρ I w (upd ρ new (some (w.heap.size, 0))) I (w.alloc (.cells cur e)) := by
    refine ⟨fun id x hx => ?_, fun _ h => h, fun b hb => heap_alloc_old w _ b (h.imm b hb), fun b c t fr hb => ⟨c, fr, ?_, rfl⟩⟩
    · unfold upd; rw [if_neg (fun e => by subst e; rw [hnew] at hx; cases hx)]; exact hx
    · exact (heap_alloc_old w _ b (heap_lt hb)).trans hb
  have old : ∀ (id b base : Nat), id ≠ new → (upd ρ new (some (w.heap.size, 0))) id = some (b, base) → ρ id = some (b, base) := fun id b base hne hr => by
    unfold upd at hr; rwa [if_neg hne] at hr
  have lenle : cs.length ≤ cur.size := by have := hv.1; simp at this; omega
  have lt_of : ∀ (id b base : Nat), m.mode id ≠ .dead → ρ id = some (b, base) → b < w.heap.size := fun id b base hl hr => by
    obtain ⟨b', base', c, t, fr, g1, g2, _⟩ := h.live hl
    rw [hr] at g1
    cases g1
    exact heap_lt g2
  have hmode : ∀ id, id ≠ new → (newBlk m new cs).mode id = m.mode id := fun id hne => by simp [newBlk, upd, hne]
  refine ⟨⟨?_, ?_, ?_, ?_, ?_⟩, hE, by simp, fun b hb _ => heap_alloc_old w _ b hb, ?_, fun b _ hi => .inl hi, rfl, rfl, rfl⟩
  · intro id off a hl ha
    by_cases hid : id = new
    · subst hid
      have ha' : cs[off]? = some a := by simpa [newBlk] using ha
      have hlt : off < cs.length := (List.getElem?_eq_some_iff.1 ha').1
      have hc : (cur.toList.take cs.length)[off]? = some (cur[off]'(by omega)) := by
        rw [List.getElem?_take, if_pos hlt]; simp
      refine ⟨w.heap.size, 0, cur[off]'(by omega), by simp [upd], ?_, h1 off _ hc, (hv.2 off a _ ha' hc).ext hE⟩
      rw [cell_row (heap_alloc_new w _)]
      simp
    · have ha' : m.cell id off = some a := by simpa [newBlk, hid] using ha
      obtain ⟨b, base, v, g1, g2, g3, g4⟩ := h.cells id off a (by rwa [hmode id hid] at hl) ha'
      exact ⟨b, base, v, hE.rho _ _ g1, (World.cell?_of_block (a := ⟨b, base + off, none⟩) (heap_alloc_old w _ b (lt_of id b base (by rwa [hmode id hid] at hl) g1))).trans g2, g3, g4.ext hE⟩
  · intro id hm
    by_cases hid : id = new
    · subst hid
      exact ⟨w.heap.size, 0, cur, e, by simp [upd], fun hi => absurd (h.imm _ hi) (by omega), heap_alloc_new w _, by simp [newBlk, upd]; omega⟩
    · rw [hmode id hid] at hm
      obtain ⟨b, base, c, t, g1, g2, g3, g4⟩ := h.rw id hm
      exact ⟨b, base, c, t, hE.rho _ _ g1, g2, (heap_alloc_old w _ b (heap_lt g3)).trans g3, by simpa [newBlk, upd, hid] using g4⟩
  · intro id hm
    by_cases hid : id = new
    · subst hid; simp [newBlk, upd] at hm
    · rw [hmode id hid] at hm
      obtain ⟨b, base, c, t, fr, g1, g2, g3, g4⟩ := h.ro id hm
      exact ⟨b, base, c, t, fr, hE.rho _ _ g1, g2, (heap_alloc_old w _ b (heap_lt g3)).trans g3, by simpa [newBlk, upd, hid] using g4⟩
  · intro id id' b base base' hm hm' r1 r2
    by_cases hid : id = new
    · by_cases hid' : id' = new
      · rw [hid, hid']
      · subst hid
        have := lt_of id' b base' (by rw [hmode id' hid'] at hm'; simp [hm']) (old id' b base' hid' r2)
        simp [upd] at r1
        omega
    · by_cases hid' : id' = new
      · subst hid'
        have := lt_of id b base (by rw [hmode id hid] at hm; simp [hm]) (old id b base hid r1)
        simp [upd] at r2
        omega
      · rw [hmode id hid] at hm
        rw [hmode id' hid'] at hm'
        exact h.inj id id' b base base' hm hm' (old _ _ _ hid r1) (old _ _ _ hid' r2)
  · intro b hb
    have := h.imm b hb
    simp; omega
  · intro b hb ⟨id, base, hm, hr⟩
    by_cases hid : id = new
    · subst hid; simp [upd] at hr; omega
    · exact ⟨id, base, by rwa [hmode id hid] at hm, old _ _ _ hid hr⟩

theorem heap_setRow_same {w : World} {g : Nat} {cur cs : Array Value} {e : TypeId} {fr : Nat × Nat} (h : w.heap[g]? = some (.cells cur e fr)) : (w.setRow g cs).heap[g]? = some (.cells cs e fr) := by
  simp only [World.setRow, Array.getElem?_modify, if_true, h]; rfl
theorem heap_setRow_other {w : World} {g k : Nat} {cs : Array Value} (h : k ≠ g) : (w.setRow g cs).heap[k]? = w.heap[k]? := by
  simp only [World.setRow, Array.getElem?_modify, if_neg (fun e : g = k => h e.symm)]

theorem setRow_grows {w : World} {g : Nat} {cur cs : Array Value} {e : TypeId} {fr : Nat × Nat} (h : w.heap[g]? = some (.cells cur e fr)) (hs : cs.size = cur.size) : Grows w (w.setRow g cs) := by
  intro b c t f hb
  by_cases hbg : b = g
  · subst hbg
    rw [h] at hb
    cases hb
    exact ⟨cs, fr, heap_setRow_same h, hs⟩
  · exact ⟨c, f, (heap_setRow_other hbg).trans hb, rfl⟩

/-- Cells that are written, in a row that is owned. -/
theorem MemR.write {ρ : Ren} {I : Nat → Prop} {w : World} {m : Mem} (h : MemR ρ I w m) {id off : Nat} (hm : m.mode id = .rw)
    {cs : List AVal} {vs : List Value} (hv : VRs ρ I w cs vs) (h1 : OneCells vs) {b base : Nat} {cur : Array Value} {e : TypeId} (hr : ρ id = some (b, base))
    (hb : w.heap[b]? = some (.cells cur e (0, 0))) (hfit : base + off + vs.length ≤ cur.size) :
    MemR ρ I (w.setRow b (cur.toList.take (base + off) ++ vs ++ cur.toList.drop (base + off + vs.length)).toArray) (writeCells m id off cs) ∧
    Fr ρ I m w ρ I (writeCells m id off cs) (w.setRow b (cur.toList.take (base + off) ++ vs ++ cur.toList.drop (base + off + vs.length)).toArray) := by
  generalize hcur' : (cur.toList.take (base + off) ++ vs ++ cur.toList.drop (base + off + vs.length)).toArray = cur'
  have hsz : cur'.size = cur.size := by rw [← hcur']; simp; omega
  have hnI : ¬ I b := by
    obtain ⟨b', base', _, _, g1, g2, _⟩ := h.rw id hm
    rw [hr] at g1
    cases g1
    exact g2
  have hE : Ext ρ I w ρ I (w.setRow b cur') :=
    ⟨fun _ _ h => h, fun _ h => h, fun k hk => heap_setRow_other (fun e => hnI (e ▸ hk)), setRow_grows hb hsz⟩
  have in_at : ∀ j, j < vs.length → cur'[base + off + j]? = vs[j]? := by
    intro j hj
    rw [← hcur']
    simp only [List.getElem?_toArray]
    rw [List.append_assoc, List.getElem?_append_right (by simp; omega)]
    rw [List.getElem?_append_left (by simp; omega)]
    congr 1
    simp; omega
  have out_at : ∀ k, k < base + off ∨ base + off + vs.length ≤ k → cur'[k]? = cur[k]? := by
    intro k hk
    rw [← hcur']
    simp only [List.getElem?_toArray]
    rcases hk with hk | hk
    · rw [List.append_assoc, List.getElem?_append_left (by simp; omega), List.getElem?_take, if_pos hk]; simp
    · rw [List.getElem?_append_right (by simp; omega), List.getElem?_drop]
      simp only [Array.getElem?_toList]
      congr 1
      simp; omega
  have hlen := hv.1
  refine ⟨⟨?_, ?_, ?_, ?_, fun k hk => by rw [size_setRow]; exact h.imm k hk⟩, hE, by simp, ?_, fun _ _ h => h, fun _ _ h => .inl h, rfl, rfl, rfl⟩
  · intro i o a hl ha
    simp only [writeCells] at ha hl
    by_cases hin : i = id ∧ off ≤ o ∧ o < off + cs.length
    · rw [if_pos hin] at ha
      obtain ⟨rfl, ho1, ho2⟩ := hin
      have hjlt : o - off < vs.length := by omega
      have hvj : vs[o - off]? = some vs[o - off] := List.getElem?_eq_getElem hjlt
      refine ⟨b, base, vs[o - off], hr, ?_, h1 _ _ hvj, (hv.2 _ a _ ha hvj).ext hE⟩
      rw [cell_row (heap_setRow_same hb), show base + o = base + off + (o - off) from by omega, in_at _ hjlt, hvj]
    · rw [if_neg hin] at ha
      obtain ⟨b', base', v, g1, g2, g3, g4⟩ := h.cells i o a hl ha
      refine ⟨b', base', v, g1, ?_, g3, g4.ext hE⟩
      by_cases hbb : b' = b
      · subst hbb
        by_cases hid : i = id
        · subst hid
          rw [hr] at g1
          cases g1
          rw [cell_row (heap_setRow_same hb), out_at _ (by omega), ← cell_row hb]
          exact g2
        · exfalso
          cases hmi : m.mode i with
          | dead => exact hl hmi
          | rw => exact hid (h.inj i id b' base' base hmi hm g1 hr)
          | ro =>
            obtain ⟨b2, base2, _, _, _, q1, q2, _⟩ := h.ro i hmi
            rw [g1] at q1
            cases q1
            exact hnI q2
      · exact (World.cell?_of_block (a := ⟨b', base' + o, none⟩) (heap_setRow_other hbb)).trans g2
  · intro i hmi
    obtain ⟨b', base', c, t, g1, g2, g3, g4⟩ := h.rw i hmi
    by_cases hbb : b' = b
    · subst hbb
      rw [hb] at g3
      cases g3
      exact ⟨b', base', cur', e, g1, g2, heap_setRow_same hb, by simp only [writeCells]; omega⟩
    · exact ⟨b', base', c, t, g1, g2, (heap_setRow_other hbb).trans g3, g4⟩
  · intro i hmi
    obtain ⟨b', base', c, t, fr, g1, g2, g3, g4⟩ := h.ro i hmi
    exact ⟨b', base', c, t, fr, g1, g2, (heap_setRow_other (fun e => by subst e; exact hnI g2)).trans g3, g4⟩
  · exact fun i i' b' base' base'' q1 q2 r1 r2 => h.inj i i' b' base' base'' q1 q2 r1 r2
  · intro k hk hn
    exact heap_setRow_other (fun e => hn ⟨id, base, hm, e ▸ hr⟩)

/-- New elements behind the last one, in the owner's own row: the row goes to a new owner. -/
theorem MemR.grow {ρ : Ren} {I : Nat → Prop} {w : World} {m : Mem} (h : MemR ρ I w m) {id off new : Nat} (hm : m.mode id = .rw) (hne : id ≠ new) (hnew : ρ new = none) (hd : m.mode new = .dead)
    {olds news : List AVal} {vs : List Value} (hv : VRs ρ I w news vs) (h1 : OneCells vs) {b base : Nat} {cur : Array Value} {e : TypeId} (hr : ρ id = some (b, base))
    (hb : w.heap[b]? = some (.cells cur e (0, 0))) (ho : cellsAt m id off olds.length = some olds) (hfit : base + (off + olds.length) + vs.length ≤ cur.size) :
    MemR (upd ρ new (some (b, base + off))) I (w.setRow b (cur.toList.take (base + (off + olds.length)) ++ vs ++ cur.toList.drop (base + (off + olds.length) + vs.length)).toArray)
      { newBlk m new (olds ++ news) with mode := upd (upd m.mode id .dead) new .rw } ∧
    Fr ρ I m w (upd ρ new (some (b, base + off))) I { newBlk m new (olds ++ news) with mode := upd (upd m.mode id .dead) new .rw }
      (w.setRow b (cur.toList.take (base + (off + olds.length)) ++ vs ++ cur.toList.drop (base + (off + olds.length) + vs.length)).toArray) := by
  obtain ⟨hW, hF⟩ := h.write (off := off + olds.length) hm hv h1 hr hb hfit
  generalize hcur' : (cur.toList.take (base + (off + olds.length)) ++ vs ++ cur.toList.drop (base + (off + olds.length) + vs.length)).toArray = cur' at hW hF ⊢
  have hsz : cur'.size = cur.size := by rw [← hcur']; simp; omega
  have hnI : ¬ I b := by
    obtain ⟨b', base', _, _, g1, g2, _⟩ := h.rw id hm
    rw [hr] at g1
    cases g1
    exact g2
  have hE : Ext ρ I (w.setRow b cur') (upd ρ new (some (b, base + off))) I (w.setRow b cur') := by
    refine ⟨fun i x hx => ?_, fun _ h => h, fun _ _ => rfl, Grows.refl _⟩
    unfold upd; rw [if_neg (fun e => by subst e; rw [hnew] at hx; cases hx)]; exact hx
  have hmode : ∀ i, i ≠ new → i ≠ id → (upd (upd m.mode id Md.dead) new Md.rw) i = m.mode i := fun i q1 q2 => by simp [upd, q1, q2]
  have old : ∀ (i b1 base1 : Nat), i ≠ new → (upd ρ new (some (b, base + off))) i = some (b1, base1) → ρ i = some (b1, base1) := fun i b1 base1 hne hr => by
    unfold upd at hr; rwa [if_neg hne] at hr
  have live_ne : ∀ i, (upd (upd m.mode id Md.dead) new Md.rw) i ≠ .dead → i ≠ new → i ≠ id := fun i hl hn e => by subst e; simp [upd, hn] at hl
  have hlen := hv.1
  have row : w.cell? ⟨b, base + off, none⟩ = cur[base + off]? := cell_row hb
  refine ⟨⟨?_, ?_, ?_, ?_, hW.imm⟩, hF.ext.trans hE, hF.size, hF.same, ?_, hF.news, hF.os, hF.tape, hF.output⟩
  · intro i o a hl ha
    by_cases hi : i = new
    · subst hi
      have ha' : (olds ++ news)[o]? = some a := by simpa [newBlk] using ha
      rw [List.getElem?_append] at ha'
      split at ha'
      · rename_i hlt
        obtain ⟨_, us, q1, q2, q3⟩ := cellsAt_spec h (by simp [hm]) hr _ _ _ ho
        have huo : us[o]? = some (us[o]'(by rw [← q1.1]; exact hlt)) := List.getElem?_eq_getElem _
        refine ⟨b, base + off, us[o]'(by rw [← q1.1]; exact hlt), by simp [upd], ?_, q2 _ _ huo, ((q1.2 o a _ ha' huo).ext hF.ext).ext hE⟩
        have := q3 o _ huo
        rw [cell_row (heap_setRow_same hb)]
        rw [cell_row hb] at this
        rw [← this, ← hcur']
        simp only [List.getElem?_toArray]
        rw [List.append_assoc, List.getElem?_append_left (by simp; omega), List.getElem?_take, if_pos (by omega)]
        simp
      · rename_i hge
        have hjlt : o - olds.length < vs.length := by rw [← hlen]; exact (List.getElem?_eq_some_iff.1 ha').1
        have hvj : vs[o - olds.length]? = some vs[o - olds.length] := List.getElem?_eq_getElem hjlt
        refine ⟨b, base + off, vs[o - olds.length], by simp [upd], ?_, h1 _ _ hvj, ((hv.2 _ a _ ha' hvj).ext hF.ext).ext hE⟩
        rw [cell_row (heap_setRow_same hb), ← hcur']
        simp only [List.getElem?_toArray]
        rw [List.append_assoc, List.getElem?_append_right (by simp; omega), List.getElem?_append_left (by simp; omega), ← hvj]
        congr 1
        simp; omega
    · have hi2 := live_ne i hl hi
      have ha' : m.cell i o = some a := by simpa [newBlk, hi] using ha
      have hl' : m.mode i ≠ .dead := by simpa [hmode i hi hi2] using hl
      obtain ⟨b', base', v, g1, g2, g3, g4⟩ := hW.cells i o a hl' (by simp only [writeCells]; rw [if_neg (fun e => hi2 e.1)]; exact ha')
      exact ⟨b', base', v, hE.rho _ _ g1, g2, g3, g4.ext hE⟩
  · intro i hmi
    by_cases hi : i = new
    · subst hi
      exact ⟨b, base + off, cur', e, by simp [upd], hnI, heap_setRow_same hb, by simp [newBlk, upd]; omega⟩
    · have hi2 := live_ne i (by simp only [] at hmi; rw [hmi]; simp) hi
      obtain ⟨b', base', c, t, g1, g2, g3, g4⟩ := hW.rw i (by simpa [writeCells, hmode i hi hi2] using hmi)
      exact ⟨b', base', c, t, hE.rho _ _ g1, g2, g3, by simpa [writeCells, newBlk, upd, hi] using g4⟩
  · intro i hmi
    by_cases hi : i = new
    · subst hi; simp [upd] at hmi
    · have hi2 := live_ne i (by simp only [] at hmi; rw [hmi]; simp) hi
      obtain ⟨b', base', c, t, fr, g1, g2, g3, g4⟩ := hW.ro i (by simpa [writeCells, hmode i hi hi2] using hmi)
      exact ⟨b', base', c, t, fr, hE.rho _ _ g1, g2, g3, by simpa [writeCells, newBlk, upd, hi] using g4⟩
  · intro i i' b1 base1 base2 q1 q2 r1 r2
    by_cases hi : i = new
    · by_cases hi' : i' = new
      · rw [hi, hi']
      · subst hi
        have hi2 := live_ne i' (by simp only [] at q2; rw [q2]; simp) hi'
        have hr' := old i' b1 base2 hi' r2
        have : b1 = b := by simp [upd] at r1; exact r1.1.symm
        subst this
        exact absurd (h.inj i' id b1 base2 base (by simpa [hmode i' hi' hi2] using q2) hm hr' hr) hi2
    · have hi2 := live_ne i (by simp only [] at q1; rw [q1]; simp) hi
      by_cases hi' : i' = new
      · subst hi'
        have hr' := old i b1 base1 hi r1
        have : b1 = b := by simp [upd] at r2; exact r2.1.symm
        subst this
        exact absurd (h.inj i id b1 base1 base (by simpa [hmode i hi hi2] using q1) hm hr' hr) hi2
      · have hi2' := live_ne i' (by simp only [] at q2; rw [q2]; simp) hi'
        exact h.inj i i' b1 base1 base2 (by simpa [hmode i hi hi2] using q1) (by simpa [hmode i' hi' hi2'] using q2) (old _ _ _ hi r1) (old _ _ _ hi' r2)
  · intro k hk ⟨i, base1, q1, q2⟩
    by_cases hi : i = new
    · subst hi
      have : k = b := by simp [upd] at q2; exact q2.1.symm
      subst this
      exact ⟨id, base, hm, hr⟩
    · have hi2 := live_ne i (by simp only [] at q1; rw [q1]; simp) hi
      exact ⟨i, base1, by simpa [hmode i hi hi2] using q1, old _ _ _ hi q2⟩

end Go.Ab
end
section
/- The abstract machine, fourth part: each abstract operation tells what the model's operation does. -/
set_option linter.unusedVariables false
set_option linter.unusedSimpArgs false
namespace Go.Ab

/-- What an operation comes to: a value (or none), in a world that stands for the abstract memory behind it. -/
def OpOut (ρ : Ren) (I : Nat → Prop) (m : Mem) (w : World) (new : Nat) (r : Result Next) (x : AVal) (m' : Mem) : Prop :=
  ∃ (v : Value) (ρ' : Ren) (w' : World), (r = .ok (.value v) w' ∨ r = .ok .skip w' ∧ v = undef) ∧ MemR ρ' I w' m' ∧ VR ρ' I w' x v ∧
    Fr ρ I m w ρ' I m' w' ∧ ∀ (id : Nat), id ≠ new → ρ' id = ρ id

theorem OpOut.value {ρ : Ren} {I : Nat → Prop} {m : Mem} {w : World} {new : Nat} {r : Result Next} {x : AVal} {v : Value} (hm : MemR ρ I w m)
    (hr : r = .ok (.value v) w) (hv : VR ρ I w x v) : OpOut ρ I m w new r x m :=
  ⟨v, ρ, w, .inl hr, hm, hv, Fr.refl _ _ _ _, fun _ _ => rfl⟩

theorem add_none (b o n : Nat) : (⟨b, o, none⟩ : Addr).add n = ⟨b, o + n, none⟩ := by
  unfold Addr.add; split <;> simp_all

section
variable {C : Cfg} {ρ : Ren} {I : Nat → Prop} {w : World} {m : Mem}

theorem run_underlying' {P : Program} {t : TypeId} {d : TypeDesc} (w : World) (h : P.underlying t = some d) : (underlying t).run P w = .ok d w := by
  simp [underlying, h]
theorem run_typeInfo' {P : Program} {t : TypeId} {i : TypeInfo} (w : World) (h : P.info? t = some i) : (typeInfo t).run P w = .ok i w := by
  simp [typeInfo, h]
theorem run_sizeOf' {P : Program} {t : TypeId} {n : Nat} (w : World) (h : sizeT P t = some n) : (sizeOf t).run P w = .ok n w := by
  unfold sizeT at h
  cases hi : P.info? t with
  | none => simp [hi] at h
  | some i => simp only [hi, Option.map_some, Option.some.injEq] at h; simp [sizeOf, run_typeInfo' w hi, h]
theorem run_isAgg' {P : Program} {t : TypeId} {x : Bool} (w : World) (h : isAggT P t = some x) : (isAgg t).run P w = .ok x w := by
  unfold isAggT at h
  split at h
  · rename_i hu; cases h; simp [isAgg, run_underlying' w hu]
  · rename_i hu; cases h; simp [isAgg, run_underlying' w hu]
  · rename_i d hn1 hn2 hu
    cases h
    simp only [isAgg, Sem.run_bind, run_underlying' w hu, Result.andThen_ok]
    cases d <;> first | rfl | exact absurd rfl (hn1 _) | exact absurd rfl (hn2 _ _)
  · cases h
theorem run_zeroValue' {P : Program} {t : TypeId} {i : TypeInfo} {z : Value} (w : World) (h : P.info? t = some i) (hz : i.zero = some z) : (zeroValue t).run P w = .ok z w := by
  simp [zeroValue, run_typeInfo' w h, hz]

theorem ofCells_rel (ρ : Ren) (I : Nat → Prop) (w : World) (vs : List Value) : VRs ρ I w (vs.map AVal.ofCell) vs := by
  refine ⟨by simp, fun j a v ha hv => ?_⟩
  simp only [List.getElem?_map, hv, Option.map_some, Option.some.injEq] at ha
  subst ha
  exact .vi _ _ (VI.ofCell I w v)

theorem all_oneCell {vs : List Value} (h : vs.all Value.oneCell' = true) : OneCells vs := fun j v hv => List.all_eq_true.1 h v (List.mem_of_getElem? hv)

theorem zeroA_spec {P : Program} {t : TypeId} {cs : List AVal} (h : zeroA P t = some cs) :
    ∃ (i : TypeInfo) (z : Value), P.info? t = some i ∧ i.zero = some z ∧ cs = z.cells.toList.map AVal.ofCell ∧ OneCells z.cells.toList := by
  unfold zeroA at h
  split at h
  · rename_i z hz
    cases hi : P.info? t with
    | none => simp [hi] at hz
    | some i =>
      simp only [hi, Option.bind_some] at hz
      split at h
      · rename_i hall
        cases h
        exact ⟨i, z, rfl, hz, rfl, all_oneCell hall⟩
      · cases h
  · cases h

/-- A new variable. -/
theorem OpOut.var (hm : MemR ρ I w m) {new : Nat} (hnew : ρ new = none) (hd : m.mode new = .dead) {cs : List AVal} {vs : Array Value} {e : TypeId}
    (hv : VRs ρ I w cs vs.toList) (h1 : OneCells vs.toList) {r : Result Next} (hr : r = .ok (.value (.pointer (some ⟨w.heap.size, 0, none⟩))) (w.alloc (.cells vs e))) :
    OpOut ρ I m w new r (.ptr new 0) (newBlk m new cs) := by
  have hl : vs.toList.take cs.length = vs.toList := List.take_of_length_le (by rw [hv.1]; exact Nat.le_refl _)
  obtain ⟨g1, g2⟩ := hm.alloc hnew hd (cur := vs) (e := e) (by rw [hl]; exact hv) (by rw [hl]; exact h1)
  refine ⟨_, _, _, .inl hr, g1, ?_, g2, fun id hne => by simp [upd, hne]⟩
  exact .ptr new 0 w.heap.size 0 (by simp [upd])

theorem allocA_sound (hm : MemR ρ I w m) {t : TypeId} {new : Nat} {x : AVal} {m' : Mem} (h : allocA C.P t m new = some (x, m')) (hnew : ρ new = none)
    (f : Value → Next) (hf : f = Next.value) :
    OpOut ρ I m w new ((do pure (f (← Instr.alloc t true (.tuple #[]))) : Sem Next).run C.P w) x m' := by
  unfold allocA at h
  split at h
  · rename_i cs hz
    split at h
    · rename_i hd
      cases h
      obtain ⟨i, z, hi, hz', rfl, h1⟩ := zeroA_spec hz
      refine OpOut.var hm hnew hd (vs := z.cells) (e := t) (ofCells_rel ρ I w _) h1 ?_
      subst hf
      simp [Instr.alloc, run_zeroValue' w hi hz', newVar, newRow]
    · cases h
  · cases h

theorem boxA_sound (hm : MemR ρ I w m) {t : TypeId} {new : Nat} {a x : AVal} {v : Value} {m' : Mem} (hv : VR ρ I w a v) (h : boxA a m new = some (x, m')) (hnew : ρ new = none) :
    OpOut ρ I m w new ((do pure (.value (← Instr.box t v)) : Sem Next).run C.P w) x m' := by
  unfold boxA at h
  split at h
  · rename_i hc
    cases h
    obtain ⟨g1, g2⟩ := hv.cells hc.1
    exact OpOut.var hm hnew hc.2 (vs := v.cells) (e := t) g1 g2 (by simp [Instr.box, newVar, newRow])
  · cases h

theorem loadA_sound (hm : MemR ρ I w m) {t : TypeId} {a x : AVal} {v : Value} (hv : VR ρ I w a v) (h : loadA C.P t a m = some x) :
    ∃ u, (Instr.loadAt t v).run C.P w = .ok u w ∧ VR ρ I w x u := by
  unfold loadA at h
  split at h
  · rename_i n hA hS
    split at h
    · rename_i id off
      split at h
      · cases h
      · rename_i hl
        obtain ⟨b, base, hr, rfl⟩ := hv.ptr_inv
        cases hc : cellsAt m id off n with
        | none => simp [hc] at h
        | some cs =>
          simp only [hc, Option.map_some, Option.some.injEq] at h
          subst h
          obtain ⟨hlen, vs, g1, g2, g3⟩ := cellsAt_spec hm hl hr _ _ _ hc
          refine ⟨.agg vs.toArray, ?_, VR.agg_mk (by simpa using g1) (by simpa using g2)⟩
          have hn : n = vs.length := by rw [← hlen, g1.1]
          have := run_loadCells_list (P := C.P) (w := w) ⟨b, base + off, none⟩ vs (fun j u hu => by rw [add_none]; exact g3 j u hu)
          simp [Instr.loadAt, Instr.sureAddr, loadVar, run_isAgg' w hA, run_sizeOf' w hS, hn, this]
    · rename_i cs
      split at h
      · rename_i hle
        cases h
        cases hv.iptr_inv with
        | iptr b o _ vs hI h1 h2 =>
          obtain ⟨us, q0, q1, q2, q3⟩ := VI.row cs vs h1 h2 ρ
          refine ⟨.agg (us.take n).toArray, ?_, VR.agg_mk (by simpa using q1.take n) (by simpa using q2.take n)⟩
          have := run_loadCells_list (P := C.P) (w := w) ⟨b, o, none⟩ (us.take n) (fun j u hu => by
            rw [add_none]
            rw [List.getElem?_take] at hu
            split at hu
            · exact q3 j u hu
            · cases hu)
          have hn : (us.take n).length = n := by simp; omega
          rw [hn] at this
          simp [Instr.loadAt, Instr.sureAddr, loadVar, run_isAgg' w hA, run_sizeOf' w hS, this]
      · cases h
    · cases h
  · rename_i n hA hS
    split at h
    · rename_i id off
      split at h
      · cases h
      · rename_i hl
        obtain ⟨b, base, hr, rfl⟩ := hv.ptr_inv
        obtain ⟨b', base', u, g1, g2, g3, g4⟩ := hm.cells id off x hl h
        rw [hr] at g1
        cases g1
        exact ⟨u, by simp [Instr.loadAt, Instr.sureAddr, loadVar, run_isAgg' w hA, g2], g4⟩
    · rename_i cs
      cases hv.iptr_inv with
      | iptr b o _ vs hI h1 h2 =>
        have := h1 0 x h
        exact ⟨vs 0, by simpa [Instr.loadAt, Instr.sureAddr, loadVar, run_isAgg' w hA] using by rw [show (⟨b, o, none⟩ : Addr) = ⟨b, o + 0, none⟩ from rfl, this.1], .vi _ _ (h2 0 x h)⟩
    · cases h
  · cases h

theorem storeA_sound (hm : MemR ρ I w m) {t : TypeId} {a x : AVal} {v u : Value} {m' : Mem} (hv : VR ρ I w a v) (hu : VR ρ I w x u) (h : storeA C.P t a x m = some m') :
    ∃ w', (Instr.storeAt t v u).run C.P w = .ok () w' ∧ MemR ρ I w' m' ∧ Fr ρ I m w ρ I m' w' := by
  unfold storeA at h
  split at h
  · rename_i id off n hS
    split at h
    · rename_i hc
      obtain ⟨hwh, hlen, h0, hrw⟩ := hc
      split at h
      · rename_i olds hold
        cases h
        obtain ⟨b, base, hr, rfl⟩ := hv.ptr_inv
        obtain ⟨b', base', cur, e, g1, g2, g3, g4⟩ := hm.rw id hrw
        rw [hr] at g1
        cases g1
        obtain ⟨q1, q2⟩ := hu.cells hwh
        have hfit : base + off + u.cells.toList.length ≤ cur.size := by
          obtain ⟨hol, vs, r1, r2, r3⟩ := cellsAt_spec hm (by simp [hrw]) hr _ _ _ hold
          have hlt : n - 1 < vs.length := by rw [← r1.1, hol]; omega
          have := r3 (n - 1) _ (List.getElem?_eq_getElem hlt)
          rw [cell_row g3] at this
          have := (Array.getElem?_eq_some_iff.1 this).1
          rw [← q1.1, hlen]
          omega
        obtain ⟨k1, k2⟩ := hm.write (off := off) hrw q1 q2 hr g3 hfit
        refine ⟨_, ?_, k1, k2⟩
        have := run_storeCells_at C.P b (base + off) e u.cells.toList 0 cur w g3 (by simpa using hfit) (fun z hz => by
          obtain ⟨j, hj⟩ := List.getElem?_of_mem hz
          exact q2 j z hj)
        have hsz : u.cells.size = n := by have := q1.1; simp at this; omega
        simp only [Nat.add_zero] at this
        simp [Instr.storeAt, Instr.sureAddr, storeVar, run_sizeOf' w hS, hsz, this]
      · cases h
    · cases h
  · cases h

theorem setRange_length {cs xs : List AVal} {off : Nat} (h : off + xs.length ≤ cs.length) : (setRange cs off xs).length = cs.length := by
  simp [setRange]; omega

theorem foldl_set (off : Nat) : ∀ (vs : List Value) (k : Nat) (cs : Array Value), off + k + vs.length ≤ cs.size →
    ((vs.zipIdx k).foldl (fun (a : Array Value) (x : Value × Nat) => a.setIfInBounds (off + x.2) x.1) cs).toList = cs.toList.take (off + k) ++ vs ++ cs.toList.drop (off + k + vs.length) := by
  intro vs
  induction vs with
  | nil => intro k cs h; simp
  | cons v vs ih =>
    intro k cs h
    simp only [List.zipIdx_cons, List.foldl_cons]
    simp only [List.length_cons] at h
    rw [ih (k + 1) _ (by simp; omega)]
    have := list_seg_step cs.toList (off + k) v vs (by simp; omega)
    simp only [Array.toList_setIfInBounds, ← Nat.add_assoc] at this ⊢
    rw [this]
    simp [Nat.add_assoc]

theorem fill_sound {place : Nat → Option (Nat × Nat)} : ∀ (parts : List (Nat × AVal)) (ps : List (Nat × Value)) (cells out : List AVal) (cs : Array Value),
    parts.length = ps.length → (∀ (j i i' : Nat) (x : AVal) (v : Value), parts[j]? = some (i, x) → ps[j]? = some (i', v) → i = i' ∧ VR ρ I w x v) →
    VRs ρ I w cells cs.toList → OneCells cs.toList → fillA place cells parts = some out →
    ∃ cs' : Array Value, Instr.fill place cs ps = some cs' ∧ VRs ρ I w out cs'.toList ∧ OneCells cs'.toList ∧ cs'.size = cs.size := by
  intro parts
  induction parts with
  | nil =>
    intro ps cells out cs hl hp hv h1 h
    cases ps with
    | cons p ps => simp at hl
    | nil =>
      simp only [fillA, Option.some.injEq] at h
      subst h
      exact ⟨cs, rfl, hv, h1, rfl⟩
  | cons p parts ih =>
    intro ps cells out cs hl hp hv h1 h
    cases ps with
    | nil => simp at hl
    | cons q ps =>
      obtain ⟨i, x⟩ := p
      obtain ⟨i', v⟩ := q
      obtain ⟨rfl, hx⟩ := hp 0 i i' x v rfl rfl
      simp only [fillA] at h
      split at h
      · rename_i off size hpl
        split at h
        · rename_i hc
          obtain ⟨hw, hs, hfit⟩ := hc
          obtain ⟨q1, q2⟩ := hx.cells hw
          have hvl := hv.1
          have e1 : v.cells.size = size := by have := q1.1; simp at this; omega
          have hle : off + 0 + v.cells.toList.length ≤ cs.size := by simp at hvl ⊢; omega
          have hfold := foldl_set off v.cells.toList 0 cs hle
          simp only [Nat.add_zero] at hfold
          have hrel : VRs ρ I w (setRange cells off x.cells) (cs.toList.take off ++ v.cells.toList ++ cs.toList.drop (off + v.cells.toList.length)) := by
            unfold setRange
            rw [q1.1]
            exact ((hv.take off).append q1).append (hv.drop _)
          have hone : OneCells (cs.toList.take off ++ v.cells.toList ++ cs.toList.drop (off + v.cells.toList.length)) := ((h1.take off).append q2).append (h1.drop _)
          obtain ⟨cs', g1, g2, g3, g4⟩ := ih ps _ out (v.cells.zipIdx.foldl (fun cs (c, j) => cs.setIfInBounds (off + j) c) cs) (by simpa using hl)
            (fun j i i' x v h1 h2 => hp (j + 1) i i' x v (by simpa using h1) (by simpa using h2))
            (by rw [← Array.foldl_toList, Array.toList_zipIdx]; rw [show (v.cells.toList.zipIdx.foldl (fun (cs : Array Value) (x : Value × Nat) => match x with | (c, j) => cs.setIfInBounds (off + j) c) cs) = v.cells.toList.zipIdx.foldl (fun (a : Array Value) (x : Value × Nat) => a.setIfInBounds (off + x.2) x.1) cs from rfl, hfold]; exact hrel)
            (by rw [← Array.foldl_toList, Array.toList_zipIdx]; rw [show (v.cells.toList.zipIdx.foldl (fun (cs : Array Value) (x : Value × Nat) => match x with | (c, j) => cs.setIfInBounds (off + j) c) cs) = v.cells.toList.zipIdx.foldl (fun (a : Array Value) (x : Value × Nat) => a.setIfInBounds (off + x.2) x.1) cs from rfl, hfold]; exact hone) h
          refine ⟨cs', ?_, g2, g3, ?_⟩
          · simp only [Instr.fill, hpl]
            rw [if_neg (by simp [e1]; simp at hvl; omega)]
            exact g1
          · rw [g4]
            have : (v.cells.zipIdx.foldl (fun (cs : Array Value) (x : Value × Nat) => match x with | (c, j) => cs.setIfInBounds (off + j) c) cs).toList.length = cs.toList.length := by
              rw [← Array.foldl_toList, Array.toList_zipIdx, show (v.cells.toList.zipIdx.foldl (fun (cs : Array Value) (x : Value × Nat) => match x with | (c, j) => cs.setIfInBounds (off + j) c) cs) = v.cells.toList.zipIdx.foldl (fun (a : Array Value) (x : Value × Nat) => a.setIfInBounds (off + x.2) x.1) cs from rfl, hfold]
              simp at hle ⊢; omega
            simpa using this
        · cases h
      · cases h

theorem placesA_run {P : Program} (w : World) : ∀ (fs : List Field) (pl : List (Nat × Nat)), placesA P fs = some pl →
    ((fs.mapM fun (f : Field) => (do pure (f.offset, ← sizeOf f.type) : Sem (Nat × Nat)))).run P w = .ok pl w := by
  intro fs
  induction fs with
  | nil => intro pl h; simp only [placesA, Option.some.injEq] at h; subst h; rfl
  | cons f fs ih =>
    intro pl h
    simp only [placesA] at h
    split at h
    · rename_i n l hn hl
      cases h
      simp only [List.mapM_cons, Sem.run_bind, Sem.run_pure, run_sizeOf' w hn, Result.andThen_ok, ih l hl]
    · cases h

theorem partsA_rel {env : Nat → AVal} {ev : Operand → Value} (hE : ∀ x, VR ρ I w (opd C env x) (ev x)) (parts : Array (Nat × Operand)) :
    (partsA C env parts.toList).length = ((parts.map fun (i, x) => (i, ev x)).toList).length ∧
    ∀ (j i i' : Nat) (x : AVal) (v : Value), (partsA C env parts.toList)[j]? = some (i, x) → ((parts.map fun (i, x) => (i, ev x)).toList)[j]? = some (i', v) → i = i' ∧ VR ρ I w x v := by
  refine ⟨by simp [partsA], fun j i i' x v h1 h2 => ?_⟩
  simp only [partsA, List.getElem?_map, Option.map_eq_some_iff, Array.toList_map] at h1 h2
  obtain ⟨p, hp, e1⟩ := h1
  obtain ⟨q, hq, e2⟩ := h2
  rw [hp] at hq
  cases hq
  cases e1
  cases e2
  exact ⟨rfl, hE _⟩

theorem buildA_sound {t : TypeId} {parts : List (Nat × AVal)} {ps : Array (Nat × Value)} {x : AVal}
    (hl : parts.length = ps.toList.length) (hp : ∀ (j i i' : Nat) (x : AVal) (v : Value), parts[j]? = some (i, x) → ps.toList[j]? = some (i', v) → i = i' ∧ VR ρ I w x v)
    (h : buildA C.P t parts = some x) : ∃ u, (Instr.build t ps).run C.P w = .ok u w ∧ VR ρ I w x u := by
  unfold buildA at h
  split at h
  · rename_i zc hz
    obtain ⟨i, z, hi, hz', rfl, h1⟩ := zeroA_spec hz
    split at h
    · rename_i fs hu
      split at h
      · rename_i pl hpl
        cases hf : fillA (pl[·]?) (z.cells.toList.map AVal.ofCell) parts with
        | none => simp [hf] at h
        | some out =>
          simp only [hf, Option.map_some, Option.some.injEq] at h
          subst h
          obtain ⟨cs', g1, g2, g3, _⟩ := fill_sound parts ps.toList _ out z.cells hl hp (ofCells_rel ρ I w _) h1 hf
          refine ⟨.agg cs', ?_, VR.agg_mk g2 g3⟩
          have hpr := placesA_run (P := C.P) w fs.toList pl hpl
          have hma : (fs.mapM fun (f : Field) => (do pure (f.offset, ← sizeOf f.type) : Sem (Nat × Nat))).run C.P w = .ok pl.toArray w := by
            rw [Array.mapM_eq_mapM_toList]
            simp only [Sem.run_map, hpr, Result.andThen_ok]
          simp only [Instr.build, Sem.run_bind, run_zeroValue' w hi hz', Result.andThen_ok, run_underlying' w hu, hma]
          have : (fun i : Nat => pl.toArray[i]?) = (fun i : Nat => pl[i]?) := by funext i; simp
          rw [this, g1]
          rfl
      · cases h
    · rename_i n e hu
      split at h
      · rename_i sz hs
        cases hf : fillA (fun i => some (i * sz, sz)) (z.cells.toList.map AVal.ofCell) parts with
        | none => simp [hf] at h
        | some out =>
          simp only [hf, Option.map_some, Option.some.injEq] at h
          subst h
          obtain ⟨cs', g1, g2, g3, _⟩ := fill_sound parts ps.toList _ out z.cells hl hp (ofCells_rel ρ I w _) h1 hf
          refine ⟨.agg cs', ?_, VR.agg_mk g2 g3⟩
          simp only [Instr.build, Sem.run_bind, run_zeroValue' w hi hz', Result.andThen_ok, run_underlying' w hu, run_sizeOf' w hs]
          rw [g1]
          rfl
      · cases h
    · cases h
  · cases h

theorem zeros_rel (vs : Array Value) (n : Nat) (h0 : 0 < vs.size ∨ n = 0) : VRs ρ I w (zeros (vs.toList.map AVal.ofCell) n) ((Array.range n).map fun i => vs[i % vs.size]!).toList := by
  refine ⟨by simp [zeros], fun j a v ha hv => ?_⟩
  have hj : j < n := by simpa [zeros] using (List.getElem?_eq_some_iff.1 ha).1
  have hpos : 0 < vs.size := by omega
  have hmod : j % vs.size < vs.size := Nat.mod_lt _ hpos
  simp only [zeros, List.getElem?_map, List.getElem?_range hj, Option.map_some, Option.some.injEq, List.length_map, Array.length_toList] at ha
  simp only [Array.toList_map, Array.toList_range, List.getElem?_map, List.getElem?_range hj, Option.map_some, Option.some.injEq] at hv
  subst ha
  subst hv
  rw [List.getD_eq_getElem?_getD, List.getElem?_map, Array.getElem?_toList, Array.getElem?_eq_getElem hmod, getElem!_pos vs _ hmod]
  exact .vi _ _ (VI.ofCell I w _)

theorem zeros_one (vs : Array Value) (n : Nat) (h0 : 0 < vs.size ∨ n = 0) (h1 : OneCells vs.toList) : OneCells ((Array.range n).map fun i => vs[i % vs.size]!).toList := by
  intro j v hv
  have hj : j < n := by simpa using (List.getElem?_eq_some_iff.1 hv).1
  have hmod : j % vs.size < vs.size := Nat.mod_lt _ (by omega)
  simp only [Array.toList_map, Array.toList_range, List.getElem?_map, List.getElem?_range hj, Option.map_some, Option.some.injEq] at hv
  subst hv
  rw [getElem!_pos vs _ hmod]
  exact h1 (j % vs.size) _ (by simp [hmod])

theorem buildSliceA_sound (hm : MemR ρ I w m) {t : TypeId} {len new : Nat} {parts : List (Nat × AVal)} {ps : Array (Nat × Value)} {x : AVal} {m' : Mem} (hnew : ρ new = none)
    (hl : parts.length = ps.toList.length) (hp : ∀ (j i i' : Nat) (x : AVal) (v : Value), parts[j]? = some (i, x) → ps.toList[j]? = some (i', v) → i = i' ∧ VR ρ I w x v)
    (h : buildSliceA C.P t len parts m new = some (x, m')) : OpOut ρ I m w new ((do pure (.value (← Instr.buildSlice t len ps)) : Sem Next).run C.P w) x m' := by
  unfold buildSliceA at h
  split at h
  · rename_i e hu
    split at h
    · rename_i sz zc hs hz
      obtain ⟨i, z, hi, hz', rfl, h1⟩ := zeroA_spec hz
      split at h
      · rename_i hc
        obtain ⟨hbig, hzl, hd⟩ := hc
        simp only [List.length_map, Array.length_toList] at hzl
        split at h
        · rename_i cs hf
          cases h
          have h0 : 0 < z.cells.size ∨ len * sz = 0 := by rw [hzl]; rcases Nat.eq_zero_or_pos sz with h | h <;> simp [h]
          obtain ⟨cs', g1, g2, g3, g4⟩ := fill_sound parts ps.toList _ cs ((Array.range (len * sz)).map fun i => z.cells[i % z.cells.size]!) hl hp (zeros_rel _ _ h0) (zeros_one _ _ h0 h1) hf
          have hlen : cs'.toList.take cs.length = cs'.toList := List.take_of_length_le (by rw [g2.1]; exact Nat.le_refl _)
          obtain ⟨k1, k2⟩ := hm.alloc hnew hd (cur := cs') (e := e) (by rw [hlen]; exact g2) (by rw [hlen]; exact g3)
          have hcs : cs'.size = len * sz := by rw [g4]; simp
          refine ⟨.slice (some ⟨w.heap.size, 0, none⟩) len len, _, w.alloc (.cells cs' e), .inl ?_, k1, ?_, k2, fun id hne => by simp [upd, hne]⟩
          · simp only [Instr.buildSlice, Sem.run_bind, run_underlying' w hu, Result.andThen_ok, run_sizeOf' w hs]
            rw [if_neg (by omega)]
            by_cases hz0 : len * sz = 0
            · simp only [hz0, if_true, pure_bind]
              have e0 : ((Array.range 0).map fun i => (#[] : Array Value)[i % (#[] : Array Value).size]!) = ((Array.range (len * sz)).map fun i => z.cells[i % z.cells.size]!) := by rw [hz0]; simp
              rw [e0, g1]
              simp [newRow]
            · rw [if_neg hz0]
              simp only [Sem.run_bind, run_zeroValue' w hi hz', Result.andThen_ok, Sem.run_pure]
              rw [g1]
              simp [newRow]
          · exact .own new 0 len sz len w.heap.size 0 cs' e (0, 0) (by simp [upd]) (heap_alloc_new w _) (Nat.le_refl _) (by omega)
        · cases h
      · cases h
    · cases h
  · cases h

theorem makeSliceA_sound (hm : MemR ρ I w m) {t : TypeId} {new : Nat} {l c x : AVal} {vl vc : Value} {m' : Mem} (hnew : ρ new = none) (hl : VR ρ I w l vl) (hc : VR ρ I w c vc)
    (h : makeSliceA C.P t l c m new = some (x, m')) : OpOut ρ I m w new ((do pure (.value (← Instr.makeSlice t vl vc)) : Sem Next).run C.P w) x m' := by
  unfold makeSliceA at h
  split at h
  · rename_i e kl l kc c hu
    have e1 := hl.int_inv
    have e2 := hc.int_inv
    subst e1
    subst e2
    split at h
    · rename_i i zc hi hz
      obtain ⟨i', z, hi', hz', rfl, h1⟩ := zeroA_spec hz
      rw [hi] at hi'
      cases hi'
      split at h
      · rename_i hcond
        obtain ⟨c1, c2, c3, c4, c5, c6⟩ := hcond
        cases h
        simp only [List.length_map, Array.length_toList] at c5
        have hr := run_make (P := C.P) (w := w) t e i z hu hi hz' kl kc l c c1 c2 (by rw [Int.mul_comm]; exact c3) c4
        generalize hcur : madeCells z.cells (c.toNat * i.size) = cur at hr
        have hlc : l.toNat * i.size ≤ c.toNat * i.size := Nat.mul_le_mul_right _ (by omega)
        have hcs : cur.size = c.toNat * i.size := by rw [← hcur]; exact size_madeCells _ _
        have htake : cur.toList.take (zeros (z.cells.toList.map AVal.ofCell) (l.toNat * i.size)).length = ((Array.range (l.toNat * i.size)).map fun j => z.cells[j % z.cells.size]!).toList := by
          rw [← hcur]
          simp only [madeCells, zeros, List.length_map, List.length_range, Array.toList_map, Array.toList_range, ← List.map_take, List.take_range]
          rw [Nat.min_eq_left hlc]
        have h0 : 0 < z.cells.size ∨ l.toNat * i.size = 0 := by rw [c5]; rcases Nat.eq_zero_or_pos i.size with h | h <;> simp [h]
        obtain ⟨k1, k2⟩ := hm.alloc hnew c6 (cur := cur) (e := e) (cs := zeros (z.cells.toList.map AVal.ofCell) (l.toNat * i.size)) (by rw [htake]; exact zeros_rel _ _ h0) (by rw [htake]; exact zeros_one _ _ h0 h1)
        refine ⟨.slice (some ⟨w.heap.size, 0, none⟩) l.toNat c.toNat, _, w.alloc (.cells cur e), .inl (by simp [hr]), k1, ?_, k2, fun id hne => by simp [upd, hne]⟩
        exact .own new 0 l.toNat i.size c.toNat w.heap.size 0 cur e (0, 0) (by simp [upd]) (heap_alloc_new w _) (by omega) (by omega)
      · cases h
    · cases h
  · cases h
end
end Go.Ab
end
