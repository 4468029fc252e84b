/- Part 3 of a proof in many texts, put together: definitions and lemmas. The theorem stands in the last text; no conditions. -/
import Derived.Test.YtmfdjipijifababPart2
section
/- The abstract machine, ninth part: code, freezing, and calls: 'aCall' tells what the model's call comes to. -/
set_option linter.unusedVariables false
set_option linter.unusedSimpArgs false
namespace Go.Ab
section
variable {C : Cfg} {nt lo : Nat} {ρ : Ren} {I : Nat → Prop} {w : World}

theorem linearise_nodup (md : Region.Mode) (ops : Array Oper) : ∀ (fuel t : Nat) (listed : Array Bool),
    (Region.linearise.go md ops fuel t listed []).Nodup ∧ ∀ i ∈ Region.linearise.go md ops fuel t listed [], listed.getD i true = false := by
  intro fuel
  induction fuel with
  | zero => intro t listed; simp [Region.linearise.go]
  | succ fuel ih =>
    intro t listed
    simp only [Region.linearise.go]
    split
    · rename_i i hi
      rw [linearise_go_acc]
      obtain ⟨h1, h2⟩ := ih (t / ((List.range ops.size).filter fun i => !listed.getD i true && ((ops[i]?).map (·.after.all fun e => !Region.binds md e || listed.getD e.on false)).getD false).length) (listed.setIfInBounds i true)
      have hmem := List.mem_of_getElem? hi
      have hlist : listed.getD i true = false := by
        have := (List.mem_filter.1 hmem).2
        simp only [Bool.and_eq_true, Bool.not_eq_true'] at this
        exact this.1
      have hlt : i < listed.size := by
        rcases Nat.lt_or_ge i listed.size with h | h
        · exact h
        · simp [Array.getD, Nat.not_lt.2 h] at hlist
      have back : ∀ j, (listed.setIfInBounds i true).getD j true = false → j ≠ i ∧ listed.getD j true = false := by
        intro j hj
        by_cases hji : j = i
        · subst hji
          simp [hlt] at hj
        · refine ⟨hji, ?_⟩
          simp only [Array.getD_eq_getD_getElem?] at hj ⊢
          rwa [Array.getElem?_setIfInBounds_ne (fun e => hji e.symm)] at hj
      refine ⟨?_, ?_⟩
      · simp only [List.reverse_singleton, List.singleton_append]
        exact List.nodup_cons.2 ⟨fun hm => (back i (h2 i hm)).1 rfl, h1⟩
      · intro j hj
        simp only [List.reverse_singleton, List.singleton_append, List.mem_cons] at hj
        rcases hj with rfl | hj
        · exact hlist
        · exact (back j (h2 j hj)).2
    · simp

theorem schedule_nodup (mixed : Bool) (ops : Array Oper) (t : Nat) : (Region.schedule mixed ops t).Nodup := by
  unfold Region.schedule
  split
  · exact (linearise_nodup _ _ _ _ _).1
  · exact (linearise_nodup _ _ _ _ _).1

/-- What code comes to. -/
def CodePost (C : Cfg) (nt lo : Nat) (ρ : Ren) (I : Nat → Prop) (m : Mem) (w : World) (e : AExit) (s' : St) (a' : Act) (w' : World) : Prop :=
  ∃ (ρ' : Ren) (I' : Nat → Prop), Rel C nt lo ρ' I' s' a' w' ∧ Fr ρ I m w ρ' I' s'.mem w' ∧ (∀ id, id < m.next → ρ' id = ρ id) ∧ m.next ≤ s'.mem.next

def exitOf : AExit → Exit
  | .normal => .normal
  | .exit id => .exit id
  | .ret => .ret

theorem region_sound {F : Fence} (hF : WideF F) {nn : Nat} {call : CallF} (hcall : CallSound C call) {id : Nat} {ops : Array Oper} {draw : Bool} {s s' : St} {a : Act}
    (hR : Rel C nt lo ρ I s a w) (hok : opsOk nt ops = true) (h : aRegion C call ops draw s = some s') {Q : Exit → Act → World → Prop}
    (hQ : ∀ (a' : Act) (w' : World), CodePost C nt lo ρ I s.mem w .normal s' a' w' → Q .normal a' w') : (Code.region id ops draw).wpIn F nn C.P Q a w := by
  have start : ∀ (w1 : World), Rel C nt lo ρ I s a w1 → Rel C nt lo ρ I (reserve s ops.size) a w1 := fun w1 h1 =>
    ⟨⟨h1.mem.cells, h1.mem.rw, h1.mem.ro, h1.mem.inj, h1.mem.imm⟩, h1.env, h1.size, h1.defers, h1.globals, h1.glob, fun id hid => h1.fresh id (by simp only [reserve] at hid; omega)⟩
  have run : ∀ (w1 : World) (is : List Nat), is.Nodup → Rel C nt lo ρ I s a w1 → Fr ρ I s.mem w ρ I s.mem w1 → aOps C call ops s.mem.next is (reserve s ops.size) = some s' → wpOpsIn F nn C.P ops Q is a w1 := by
    intro w1 is hnd h1 hf hrun
    refine ops_sound (nt := nt) (lo := lo) (ρ0 := ρ) hF hcall hok is (reserve s ops.size) s' a w1 ρ I (fun _ => False) hnd (fun _ _ h => h) (start w1 h1) ⟨fun _ _ => rfl, fun j _ _ => h1.fresh _ (by omega)⟩ (Nat.le_refl _) hrun ?_
    intro ρ' I' a' w' g1 g2 g3 g4 _
    exact hQ a' w' ⟨ρ', I', g1, hf.trans ⟨g2.ext, g2.size, g2.same, g2.owns, g2.news, g2.os, g2.tape, g2.output⟩, g3, by omega⟩
  unfold aRegion at h
  split at h
  · cases h
  · rename_i hc
    cases draw with
    | false => exact wpIn_region (run w _ List.nodup_range hR (Fr.refl _ _ _ _) h)
    | true =>
      have hs : SameOrders C call ops s.mem.next (reserve s ops.size) := by
        by_cases hs : SameOrders C call ops s.mem.next (reserve s ops.size)
        · exact hs
        · exact absurd ⟨rfl, hs⟩ hc
      refine wpIn_region_draw fun t => ?_
      have hw : ({ w with drawn := w.drawn + 1 } : World) = w.drew := rfl
      rw [hw]
      refine run w.drew _ ?_ ⟨hR.mem.drew, fun t => (hR.env t).ext (drew_ext ρ I w), hR.size, hR.defers.fr hR.mem Fr.drew, hR.globals, hR.glob.ext (fun _ h => h) (fun _ _ => rfl), hR.fresh⟩ Fr.drew ((hs t).trans h)
      exact schedule_nodup _ _ _

theorem least {p : Nat → Prop} (h : ∃ k, p k) : ∃ k, p k ∧ ∀ j, p j → k ≤ j := by
  obtain ⟨k, hk⟩ := h
  induction k using Nat.strongRecOn with
  | _ k ih =>
    by_cases hj : ∃ j, j < k ∧ p j
    · obtain ⟨j, hlt, hj⟩ := hj
      exact ih j hlt hj
    · exact ⟨k, hk, fun j hpj => Nat.le_of_not_lt fun hlt => hj ⟨j, hlt, hpj⟩⟩

noncomputable def leastOf (p : Nat → Prop) : Nat := @Classical.epsilon Nat ⟨0⟩ fun k => p k ∧ ∀ j, p j → k ≤ j
theorem leastOf_spec {p : Nat → Prop} (h : ∃ k, p k) : p (leastOf p) ∧ ∀ j, p j → leastOf p ≤ j := Classical.epsilon_spec (least h)

theorem loop_sound {F : Fence} {nn : Nat} {c : Code} {f : St → Option (AExit × St)} {Q : Exit → Act → World → Prop} {ρ : Ren} {I : Nat → Prop} {s s' : St} {a : Act} {w : World} {e : AExit} {n : Nat}
    (hf : ∀ (ρ : Ren) (I : Nat → Prop) (s : St) (a : Act) (w : World) (e : AExit) (s' : St) (Q : Exit → Act → World → Prop), Rel C nt lo ρ I s a w → f s = some (e, s') →
      (∀ a' w', CodePost C nt lo ρ I s.mem w e s' a' w' → Q (exitOf e) a' w') → c.wpIn F nn C.P Q a w)
    (hR : Rel C nt lo ρ I s a w) (h : aLoop f n s = some (e, s')) (hQ : ∀ a' w', CodePost C nt lo ρ I s.mem w e s' a' w' → Q (exitOf e) a' w') : (Code.loop c).wpIn F nn C.P Q a w := by
  let G : Nat → Act → World → Prop := fun k a1 w1 => ∃ (ρ1 : Ren) (I1 : Nat → Prop) (s1 : St), Rel C nt lo ρ1 I1 s1 a1 w1 ∧ Fr ρ I s.mem w ρ1 I1 s1.mem w1 ∧
    (∀ id, id < s.mem.next → ρ1 id = ρ id) ∧ s.mem.next ≤ s1.mem.next ∧ aLoop f k s1 = some (e, s')
  have h0 : G n a w := ⟨ρ, I, s, hR, Fr.refl _ _ _ _, fun _ _ => rfl, Nat.le_refl _, h⟩
  refine wpIn_loop (fun a1 w1 => ∃ k, G k a1 w1) (fun a1 w1 => leastOf fun k => G k a1 w1) ⟨n, h0⟩ ?_
  intro a1 w1 hG
  have hfind := (leastOf_spec hG).1
  generalize (leastOf fun k => G k a1 w1) = k at hfind ⊢
  obtain ⟨ρ1, I1, s1, r1, r2, r3, r4, r5⟩ := hfind
  cases k with
  | zero => simp [aLoop] at r5
  | succ k =>
    simp only [aLoop] at r5
    split at r5
    · rename_i s2 hs2
      refine hf ρ1 I1 s1 a1 w1 .normal s2 _ r1 hs2 fun a2 w2 hp => ?_
      obtain ⟨ρ2, I2, q1, q2, q3, q4⟩ := hp
      have hG2 : G k a2 w2 := ⟨ρ2, I2, s2, q1, r2.trans q2, fun id hid => (q3 id (by omega)).trans (r3 id hid), by omega, r5⟩
      refine ⟨⟨k, hG2⟩, ?_⟩
      exact Nat.lt_succ_of_le ((leastOf_spec (p := fun k => G k a2 w2) ⟨k, hG2⟩).2 k hG2)
    · rename_i hne
      have he : e ≠ .normal := fun e' => hne s' (by rw [r5, e'])
      refine hf ρ1 I1 s1 a1 w1 e s' _ r1 r5 fun a2 w2 hp => ?_
      obtain ⟨ρ2, I2, q1, q2, q3, q4⟩ := hp
      have := hQ a2 w2 ⟨ρ2, I2, q1, r2.trans q2, fun id hid => (q3 id (by omega)).trans (r3 id hid), by omega⟩
      cases e with
      | normal => exact absurd rfl he
      | exit id => exact this
      | ret => exact this

end

/-! Ranges over functions. -/
section
variable {C : Cfg} {nt lo : Nat} {ρ : Ren} {I : Nat → Prop} {w : World}

def exitCode : AExit → Code
  | .normal => .skip
  | .exit id => .exit id
  | .ret => .ret

/-- What stays as it is while an iterator runs: the loop's record, the block of its deferred calls, and the state of the function that ranges. -/
structure YC where
  l : Nat
  D : Nat
  fn : FuncId
  T : Array Value
  ps : Array Tmp
  assign : Code
  body : Code
  env : Nat → AVal
  ds : List Deferred
  ρ : Ren
  I : Nat → Prop
  m : Mem
  w : World

def YC.rc (c : YC) (st : LoopState) (p : Option Code) : Loop := { state := st, pending := p, fn := c.fn, tmps := c.T, params := c.ps, assign := c.assign, body := c.body, defers := c.D }
def YC.now (c : YC) : Option AExit → Loop
  | none => c.rc .ready none
  | some e => c.rc .done (some (exitCode e))

structure YB (lo : Nat) (c : YC) (ρ : Ren) (I : Nat → Prop) (m : Mem) (w : World) : Prop where
  env : ∀ t, VR ρ I w (c.env t) (c.T.getD t undef)
  marks : Marks lo I c.ds w
  fr : Fr c.ρ c.I c.m c.w ρ I m w
  old : ∀ id, id < c.m.next → ρ id = c.ρ id
  nx : c.m.next ≤ m.next
  new : c.w.heap.size ≤ c.l
  ni : ¬ I c.l

theorem put_ext {l : Nat} {r : Loop} (o : Obj) (hl : w.heap[l]? = some (.loop r)) (hi : ¬ I l) : Ext ρ I w ρ I (w.putObj l o) :=
  ⟨fun _ _ h => h, fun _ h => h, fun b hb => World.putObj_heap_other (fun e => hi (e ▸ hb)), fun b cur e fr hb => ⟨cur, fr, (World.putObj_heap_other (fun e' => by subst e'; rw [hl] at hb; cases hb)).trans hb, rfl⟩⟩

theorem put_mem {m : Mem} {l : Nat} {r : Loop} (o : Obj) (hm : MemR ρ I w m) (hl : w.heap[l]? = some (.loop r)) (hi : ¬ I l) : MemR ρ I (w.putObj l o) m :=
  hm.ext (put_ext o hl hi) (fun b hb => World.putObj_heap_other (fun e => not_owned hm hl (fun _ _ _ e => by cases e) (e ▸ hb))) (fun b hb => by rw [World.putObj_size]; exact hm.imm b hb)
    (fun b ⟨id, base, h1, h2⟩ hb => by
      obtain ⟨b', base', cur, e, h3, h4, _⟩ := hm.rw id h1
      rw [h2] at h3
      cases h3
      exact h4 hb)

theorem Marks.put {ds : List Deferred} {l : Nat} {r : Loop} (o : Obj) (h : Marks lo I ds w) (hl : w.heap[l]? = some (.loop r)) : Marks lo I ds (w.putObj l o) :=
  h.keep (by rw [World.putObj_size]; exact Nat.le_refl _) fun D hi hD => ⟨hi, (World.putObj_heap_other (fun e => by subst e; rw [hl] at hD; cases hD)).trans hD⟩

theorem Rel.put {s : St} {a : Act} {l : Nat} {r : Loop} (o : Obj) (h : Rel C nt lo ρ I s a w) (hl : w.heap[l]? = some (.loop r)) (hi : ¬ I l) : Rel C nt lo ρ I s a (w.putObj l o) :=
  ⟨put_mem o h.mem hl hi, fun t => (h.env t).ext (put_ext o hl hi), h.size, h.defers.put o hl, h.globals, h.glob.ext (fun _ h => h) (fun b hb => World.putObj_heap_other (fun e => hi (e ▸ hb))), h.fresh⟩

theorem YB.put {c : YC} {m : Mem} {r : Loop} (o : Obj) (h : YB lo c ρ I m w) (hl : w.heap[c.l]? = some (.loop r)) : YB lo c ρ I m (w.putObj c.l o) :=
  ⟨fun t => (h.env t).ext (put_ext o hl h.ni), h.marks.put o hl,
    ⟨h.fr.ext.trans (put_ext o hl h.ni), by rw [World.putObj_size]; exact h.fr.size, fun b hb hn => (World.putObj_heap_other (fun e => by have := h.new; omega)).trans (h.fr.same b hb hn), h.fr.owns, h.fr.news, h.fr.os, h.fr.tape, h.fr.output⟩,
    h.old, h.nx, h.new, h.ni⟩

theorem YB.step {c : YC} {ρ' : Ren} {I' : Nat → Prop} {m m' : Mem} {w' : World} {r : Loop} (h : YB lo c ρ I m w) (hl : w.heap[c.l]? = some (.loop r)) (hm : MemR ρ I w m) (hf : Fr ρ I m w ρ' I' m' w') (ho : ∀ id, id < c.m.next → ρ' id = ρ id) (hn : c.m.next ≤ m'.next) :
    YB lo c ρ' I' m' w' ∧ w'.heap[c.l]? = some (.loop r) := by
  have no := not_owned hm hl (fun _ _ _ e => by cases e)
  have hlt := heap_lt' hl
  have h1 := h.nx
  refine ⟨⟨fun t => (h.env t).ext hf.ext, h.marks.fr hm hf, h.fr.trans hf, fun id hid => (ho id hid).trans (h.old id hid), hn, h.new, fun hi => ?_⟩, (hf.same _ hlt no).trans hl⟩
  rcases hf.news _ hlt hi with q | q
  · exact h.ni q
  · exact no q

/-- The state of an iterator that runs. -/
structure YRel (C : Cfg) (nt lo : Nat) (c : YC) (ρ : Ren) (I : Nat → Prop) (x : YS) (a : Act) (w : World) : Prop where
  rel : Rel C nt lo ρ I x.st a w
  y : ∀ t ∈ x.y, a.tmps.getD t undef = .func (.yield c.l) #[] #[]
  df : a.defers = []
  yb : YB lo c ρ I x.st.mem w
  rc : w.heap[c.l]? = some (.loop (c.now x.p))

/-- The rounds are as they are told. -/
def YSound (C : Cfg) (lo : Nat) (c : YC) (yh : YF) : Prop :=
  ∀ (args : List AVal) (m : Mem) (b : Bool) (m' : Mem) (p' : Option AExit), yh args m = some (b, m', p') →
    ∀ (ρ : Ren) (I : Nat → Prop) (w : World) (vs : Array Value), MemR ρ I w m → (∀ g, g < C.ng → ρ g = some (g, 0)) → GlobOK C I w → (∀ id, m.next ≤ id → ρ id = none) →
      YB lo c ρ I m w → w.heap[c.l]? = some (.loop (c.now none)) → VRs ρ I w args vs.toList → vs.size = c.ps.size ∧
      ∀ nn : Nat, RoundIn Fence.wide nn C.P c.l c.fn ((c.ps.zip vs).foldl (fun T (t, v) => T.setIfInBounds t v) c.T) c.assign c.body w fun e w' =>
        ∃ (ρ' : Ren) (I' : Nat → Prop), e = .returned (.bool b) ∧ MemR ρ' I' w' m' ∧ (∀ g, g < C.ng → ρ' g = some (g, 0)) ∧ GlobOK C I' w' ∧ (∀ id, m'.next ≤ id → ρ' id = none) ∧
          YB lo c ρ' I' m' w' ∧ w'.heap[c.l]? = some (.loop (c.now p')) ∧ Ext ρ I w ρ' I' w' ∧ (∀ id, id < m.next → ρ' id = ρ id) ∧ m.next ≤ m'.next

/-- Code is as a function of states tells. -/
def Snd (C : Cfg) (nt lo : Nat) (c : Code) (f : St → Option (AExit × St)) : Prop :=
  ∀ (F : Fence) (nn : Nat), WideF F → ∀ (ρ : Ren) (I : Nat → Prop) (s s' : St) (a : Act) (w : World) (e : AExit) (Q : Exit → Act → World → Prop),
    Rel C nt lo ρ I s a w → f s = some (e, s') → (∀ a' w', CodePost C nt lo ρ I s.mem w e s' a' w' → Q (exitOf e) a' w') → c.wpIn F nn C.P Q a w

theorem setAll_rel : ∀ (ps : List Tmp) (args : List AVal) (vs : List Value) (env : Nat → AVal) (T : Array Value), ps.length = args.length → VRs ρ I w args vs → (∀ p ∈ ps, p < T.size) → (∀ t, VR ρ I w (env t) (T.getD t undef)) →
    (∀ t, VR ρ I w (setAll env ps args t) (((ps.zip vs).foldl (fun (T : Array Value) (x : Tmp × Value) => T.setIfInBounds x.1 x.2) T).getD t undef)) ∧ ((ps.zip vs).foldl (fun (T : Array Value) (x : Tmp × Value) => T.setIfInBounds x.1 x.2) T).size = T.size := by
  intro ps
  induction ps with
  | nil => intro args vs env T hl hv _ hE; cases args <;> exact ⟨hE, rfl⟩
  | cons p ps ih =>
    intro args vs env T hl hv hp hE
    cases args with
    | nil => simp at hl
    | cons x args =>
      cases vs with
      | nil => have := hv.1; simp at this
      | cons v vs =>
        have hx : VR ρ I w x v := hv.2 0 x v rfl rfl
        have hv' : VRs ρ I w args vs := ⟨by have := hv.1; simpa using this, fun j a' v' h1 h2 => hv.2 (j + 1) a' v' (by simpa using h1) (by simpa using h2)⟩
        have hpl := hp p (by simp)
        obtain ⟨k1, k2⟩ := ih args vs (upd env p x) (T.setIfInBounds p v) (by simpa using hl) hv' (fun q hq => by rw [Array.size_setIfInBounds]; exact hp q (by simp [hq])) (fun t => by
          by_cases ht : t = p
          · subst ht
            simp [upd, hpl]
            exact hx
          · have := hE t
            simp only [upd, if_neg ht, Array.getD_eq_getD_getElem?] at this ⊢
            rw [Array.getElem?_setIfInBounds_ne (fun e => ht e.symm)]
            exact this)
        simp only [setAll, List.zip_cons_cons, List.foldl_cons]
        exact ⟨k1, by rw [k2]; simp⟩

theorem round_sound {c : YC} {fa fb : St → Option (AExit × St)} (ha : Snd C nt lo c.assign fa) (hb : Snd C nt lo c.body fb) (hT : c.T.size = nt) (hp : ∀ p ∈ c.ps.toList, p < nt) : YSound C lo c (roundF c.env c.ps fa fb) := by
  intro args m b m' p' h ρ I w vs hm hg hgl hfr hw hl hvs
  unfold roundF at h
  split at h
  · rename_i hsz
    have hvl : vs.size = c.ps.size := by rw [hsz, hvs.1]; simp
    refine ⟨hvl, fun nn => ?_⟩
    split at h
    · rename_i s1 hs1
      have hset := setAll_rel (ρ := ρ) (I := I) (w := w) c.ps.toList args vs.toList c.env c.T (by simpa using hsz) hvs (fun p hpm => by rw [hT]; exact hp p hpm) hw.env
      have hfold : ((c.ps.zip vs).foldl (fun (T : Array Value) (x : Tmp × Value) => T.setIfInBounds x.1 x.2) c.T) = ((c.ps.toList.zip vs.toList).foldl (fun (T : Array Value) (x : Tmp × Value) => T.setIfInBounds x.1 x.2) c.T) := by
        rw [← Array.foldl_toList, Array.toList_zip]
      have hrel : Rel C nt lo ρ I ⟨setAll c.env c.ps.toList args, m⟩ { tmps := (c.ps.zip vs).foldl (fun T (t, v) => T.setIfInBounds t v) c.T, defers := [] } w := by
        refine ⟨hm, fun t => ?_, ?_, ⟨hw.marks.low, [], rfl, List.nodup_nil, by simp⟩, hg, hgl, hfr⟩
        · have := hset.1 t
          rw [← hfold] at this
          exact this
        · have := hset.2
          rw [← hfold] at this
          exact this.trans hT
      have hF : WideF (Fence.wide.inRound c.l) := .inr ⟨c.l, rfl⟩
      refine roundIn_of_wpIn trivial (ha _ nn hF ρ I _ s1 _ w .normal _ hrel hs1 fun a1 w1 hp1 => ?_)
      obtain ⟨ρ1, I1, r1, r2, r3, r4⟩ := hp1
      obtain ⟨y1, l1⟩ := hw.step hl hm r2 (fun id hid => r3 id (Nat.lt_of_lt_of_le hid hw.nx)) (Nat.le_trans hw.nx r4)
      refine ⟨_, run_beginRound l1 rfl, ?_⟩
      have y2 := y1.put (.loop { c.now none with state := .busy }) l1
      have l2 : (w1.putObj c.l (.loop { c.now none with state := .busy })).heap[c.l]? = some (.loop { c.now none with state := .busy }) := World.putObj_heap_same (heap_lt' l1)
      have r5 := r1.put (.loop { c.now none with state := .busy }) l1 y1.ni
      have fin : ∀ (e : AExit) (s2 : St) (p2 : Option AExit) (j : Option Code) (a3 : Act) (w3 : World), CodePost C nt lo ρ1 I1 s1.mem (w1.putObj c.l (.loop { c.now none with state := .busy })) e s2 a3 w3 →
          ({ { c.now none with state := .busy } with state := if j.isNone then .ready else .done, pending := j } : Loop) = c.now p2 →
          ∃ v w4, (Instr.endRound c.l j).run C.P w3 = .ok v w4 ∧ ∃ (ρ' : Ren) (I' : Nat → Prop), Ending.returned v = .returned (.bool j.isNone) ∧ MemR ρ' I' w4 s2.mem ∧ (∀ g, g < C.ng → ρ' g = some (g, 0)) ∧ GlobOK C I' w4 ∧ (∀ id, s2.mem.next ≤ id → ρ' id = none) ∧
          YB lo c ρ' I' s2.mem w4 ∧ w4.heap[c.l]? = some (.loop (c.now p2)) ∧ Ext ρ I w ρ' I' w4 ∧ (∀ id, id < m.next → ρ' id = ρ id) ∧ m.next ≤ s2.mem.next := by
        intro e s2 p2 j a3 w3 hp3 hj
        obtain ⟨ρ3, I3, t1, t2, t3, t4⟩ := hp3
        obtain ⟨y3, l3⟩ := y2.step l2 r5.mem t2 (fun id hid => t3 id (Nat.lt_of_lt_of_le hid y2.nx)) (Nat.le_trans y2.nx t4)
        refine ⟨_, _, run_endRound j l3, ρ3, I3, rfl, ?_⟩
        rw [hj]
        have t5 := t1.put (.loop (c.now p2)) l3 y3.ni
        have r4' : m.next ≤ s1.mem.next := r4
        refine ⟨t5.mem, t5.globals, t5.glob, t5.fresh, y3.put _ l3, World.putObj_heap_same (heap_lt' l3), ((r2.ext.trans (put_ext _ l1 y1.ni)).trans t2.ext).trans (put_ext _ l3 y3.ni), fun id hid => (t3 id (by omega)).trans (r3 id hid), by omega⟩
      split at h
      · rename_i s2 hs2
        cases h
        refine hb _ nn hF ρ1 I1 s1 s2 a1 _ .normal _ r5 hs2 fun a3 w3 hp3 => ?_
        exact fin .normal s2 none none a3 w3 hp3 rfl
      · rename_i e s2 hne hs2
        cases h
        refine hb _ nn hF ρ1 I1 s1 s2 a1 _ e _ r5 hs2 fun a3 w3 hp3 => ?_
        cases e with
        | normal => exact (hne rfl).elim
        | exit id => exact fin (.exit id) s2 (some (.exit id)) (some (.exit id)) a3 w3 hp3 rfl
        | ret => exact fin .ret s2 (some .ret) (some .ret) a3 w3 hp3 rfl
      · cases h
    · cases h
  · cases h

theorem put_getD_ne (a : Act) {dst : Option Tmp} (v : Value) {t : Nat} (h : ∀ d, dst = some d → t ≠ d) : (a.put dst v).tmps.getD t undef = a.tmps.getD t undef := by
  cases dst with
  | none => rfl
  | some d =>
    simp only [Act.put, Array.getD_eq_getD_getElem?]
    rw [Array.getElem?_setIfInBounds_ne (fun e => h d rfl e.symm)]

theorem yLess_mem {y : List Nat} {dst : Option Tmp} {t : Nat} (h : t ∈ yLess y dst) : t ∈ y ∧ ∀ d, dst = some d → t ≠ d := by
  cases dst with
  | none => exact ⟨h, fun d e => by cases e⟩
  | some d =>
    simp only [yLess, List.mem_filter, decide_eq_true_eq] at h
    exact ⟨h.1, fun d' e => by cases e; exact h.2⟩

theorem y_step_sound {call : CallF} (hcall : CallSound C call) {c : YC} {yh : YF} (hy : YSound C lo c yh) {nn : Nat} {ops : Array Oper} {base i : Nat} {x x' : YS} {a : Act} {done : Nat → Prop} {ρb : Ren}
    (hR : YRel C nt lo c ρ I x a w) (hF1 : Frame1 base ops.size done ρb ρ x.st.mem) (hnext : base + ops.size ≤ x.st.mem.next) (hbase : c.m.next ≤ base) (hi : ¬ done i) (hok : opsOk nt ops = true)
    (h : yStep C call yh ops base i x = some x') {Q : Exit → Act → World → Prop} {K : Act → World → Prop}
    (hK : ∀ (ρ' : Ren) (I' : Nat → Prop) (a' : Act) (w' : World), YRel C nt lo c ρ' I' x' a' w' → Frame1 base ops.size (fun j => done j ∨ j = i) ρb ρ' x'.st.mem → base + ops.size ≤ x'.st.mem.next → K a' w') :
    wpOpI Fence.wide nn C.P ops Q i K a w := by
  have hF : WideF Fence.wide := .inl rfl
  have ord : ∀ (s : St) (y' : List Nat), aStep C call ops base i x.st = some s → x' = ⟨s, y', x.p⟩ → (∀ v, ∀ t ∈ y', (a.put ((ops[i]?).bind (·.dst)) v).tmps.getD t undef = .func (.yield c.l) #[] #[]) →
      wpOpI Fence.wide nn C.P ops Q i K a w := by
    intro s y' hs hx hy'
    subst hx
    refine step_sound hF hcall hR.rel hF1 hnext hi hok hs fun ρ' I' v w' hR' hFr hF1' hn' => ?_
    have st := hR.yb.step (m' := s.mem) hR.rc hR.rel.mem hFr (fun id hid => (hF1'.low id (by omega)).trans (hF1.low id (by omega)).symm) (by omega)
    exact hK ρ' I' _ w' ⟨hR', hy' v, by rw [put_defers]; exact hR.df, st.1, st.2⟩ hF1' hn'
  unfold yStep at h
  split at h
  · cases h
  · rename_i o ho
    have hbind : (ops[i]?).bind (·.dst) = o.dst := by rw [ho]; rfl
    have less : ∀ v, ∀ t ∈ yLess x.y o.dst, (a.put ((ops[i]?).bind (·.dst)) v).tmps.getD t undef = .func (.yield c.l) #[] #[] := fun v t ht => by
      obtain ⟨h1, h2⟩ := yLess_mem ht
      rw [hbind, put_getD_ne a v h2]
      exact hR.y t h1
    have hil : i < ops.size := (Array.getElem?_eq_some_iff.1 ho).1
    have hd : ∀ d, o.dst = some d → d < a.tmps.size := by
      intro d hd
      have := List.all_eq_true.1 hok o (List.mem_of_getElem? (by simpa using ho))
      rw [hd] at this
      rw [hR.rel.size]
      simpa using this
    split at h
    · cases h
    · obtain ⟨s, h1, h2⟩ := Option.map_eq_some_iff.1 h
      exact ord s _ h1 h2.symm less
    · rename_i hw
      split at h
      · rename_i args hcl
        split at h
        · rename_i hp
          split at h
          · rename_i b m' p' hyh
            cases h
            -- the iterator calls the loop's body
            unfold yCallee at hcl
            split at hcl
            · rename_i t args' hco
              split at hcl
              · rename_i hty
                cases hcl
                obtain ⟨cc, hop, hcal, hargs⟩ := callOf_spec hco
                have hv := hR.y t hty
                have hvs : VRs ρ I w (args.map (opd C x.st.env)) (cc.args.map a.eval).toList := by
                  have := map_opd (C := C) (ev := a.eval) (fun x => hR.rel.opd x) cc.args
                  rw [hargs] at this
                  simpa using this
                have hrc := hR.rc
                rw [hp] at hrc
                obtain ⟨k1, k2⟩ := hy _ _ b m' p' hyh ρ I w (cc.args.map a.eval) hR.rel.mem hR.rel.globals hR.rel.glob hR.rel.fresh hR.yb hrc hvs
                unfold wpOpI
                simp only [ho]
                rw [wantedA_sound hR.rel hw]
                simp only [if_true]
                refine ⟨fun f _ => hF.fn f, ?_⟩
                rw [Oper.semAt_eq _ _ _ (fun c' hc' => by rw [hop] at hc'; cases hc')]
                have hrun : (execOp a.eval o).run C.P w = .ok (.round c.l c.fn ((c.ps.zip (cc.args.map a.eval)).foldl (fun T (t, v) => T.setIfInBounds t v) c.T) c.assign c.body) w := by
                  have hev : a.eval (.tmp t) = .func (.yield c.l) #[] #[] := hv
                  have hyl := run_yield (P := C.P) (args := cc.args.map a.eval) hrc k1
                  refine Eq.trans ?_ hyl
                  simp [execOp, hop, resolve, hcal, hev, Deferred.ofValue, invoke]
                rw [hrun, Oper.uponIn_round]
                refine ⟨fun hs => hF.depth hs, (k2 _).mono fun e w' hp' => ?_⟩
                obtain ⟨ρ', I', rfl, q1, q2, q3, q4, q5, q6, q7, q8, q9⟩ := hp'
                simp only []
                refine hK ρ' I' _ w' ⟨⟨q1, env_put (fun t => (hR.rel.env t).ext q7) hd (.vi _ _ (.bool b)), by rw [put_size]; exact hR.rel.size, ?_, q2, q3, q4⟩, fun t ht => ?_, by rw [put_defers]; exact hR.df, q5, q6⟩ ⟨fun id hid => (q8 id (by omega)).trans (hF1.low id hid), fun j hj hn => (q8 _ (by omega)).trans (hF1.undone j hj (fun e => hn (.inl e)))⟩ (by simp only []; omega)
                · rw [put_defers, hR.df]
                  exact ⟨q5.marks.low, [], rfl, List.nodup_nil, by simp⟩
                · have := less (.bool b) t ht
                  rwa [hbind] at this
              · cases hcl
            · cases hcl
          · cases h
        · cases h
      · rename_i hncl
        obtain ⟨s, h1, h2⟩ := Option.map_eq_some_iff.1 h
        by_cases hmv : yMoved x.y o = true
        · rw [if_pos hmv] at h2
          -- the value is handed on
          obtain ⟨t, hty, hexec, haop⟩ : ∃ t, t ∈ x.y ∧ (execOp a.eval o).run C.P w = .ok (.value (a.eval (.tmp t))) w ∧ aStep C call ops base i x.st = some ⟨setOpt x.st.env o.dst (x.st.env t), x.st.mem⟩ := by
            unfold yMoved at hmv
            unfold aStep
            rw [ho]
            simp only [hw]
            split at hmv
            · rename_i t hop
              refine ⟨t, by simpa using hmv, by simp [execOp, hop], ?_⟩
              simp [callOf, hop, aOp, opd]
            · rename_i t hop
              refine ⟨t, by simpa using hmv, by simp [execOp, hop], ?_⟩
              simp [callOf, hop, aOp, opd]
            · cases hmv
          rw [haop] at h1
          cases h1
          have hv := hR.y t hty
          subst h2
          unfold wpOpI
          simp only [ho]
          rw [wantedA_sound hR.rel hw]
          simp only [if_true]
          refine ⟨fun f _ => hF.fn f, ?_⟩
          have hnd : ∀ c', o.op ≠ .defer c' := fun c' hc' => by
            unfold yMoved at hmv
            rw [hc'] at hmv
            cases hmv
          rw [Oper.semAt_eq _ _ _ hnd, hexec, Oper.uponIn_value]
          have hev : a.eval (.tmp t) = a.tmps.getD t undef := rfl
          refine hK ρ I _ w ⟨⟨hR.rel.mem, env_put hR.rel.env hd (hR.rel.env t), by rw [put_size]; exact hR.rel.size, by rw [put_defers]; exact hR.rel.defers, hR.rel.globals, hR.rel.glob, hR.rel.fresh⟩, fun t' ht' => ?_, by rw [put_defers]; exact hR.df, hR.yb, hR.rc⟩ ⟨hF1.low, fun j hj hn => hF1.undone j hj (fun e => hn (.inl e))⟩ hnext
          simp only [] at ht'
          split at ht'
          · rename_i d hdd
            by_cases htd : t' = d
            · subst htd
              have := hd t' hdd
              rw [hdd]
              simp [Act.put, this, hev]
              rw [← hv]
              simp [Array.getD_eq_getD_getElem?]
            · rw [put_getD_ne a _ (fun d' e => by rw [hdd] at e; cases e; exact htd)]
              rcases List.mem_cons.1 ht' with e | e
              · exact absurd e htd
              · exact hR.y t' (yLess_mem e).1
          · rename_i hdd
            rw [hdd]
            exact hR.y t' ht'
        · rw [if_neg hmv] at h2
          exact ord s _ h1 h2.symm less

theorem y_ops_sound {call : CallF} (hcall : CallSound C call) {c : YC} {yh : YF} (hy : YSound C lo c yh) {nn : Nat} {ops : Array Oper} {base : Nat} (hbase : c.m.next ≤ base) (hok : opsOk nt ops = true) {ρb : Ren} {Q : Exit → Act → World → Prop} :
    ∀ (is : List Nat) (x x' : YS) (a : Act) (w : World) (ρ : Ren) (I : Nat → Prop) (done : Nat → Prop), is.Nodup → (∀ i ∈ is, ¬ done i) →
      YRel C nt lo c ρ I x a w → Frame1 base ops.size done ρb ρ x.st.mem → base + ops.size ≤ x.st.mem.next → yOps C call yh ops base is x = some x' →
      (∀ (ρ' : Ren) (I' : Nat → Prop) (a' : Act) (w' : World), YRel C nt lo c ρ' I' x' a' w' → Q .normal a' w') → wpOpsIn Fence.wide nn C.P ops Q is a w := by
  intro is
  induction is with
  | nil =>
    intro x x' a w ρ I done _ _ hR _ _ h hQ
    simp only [yOps, Option.some.injEq] at h
    subst h
    exact hQ ρ I a w hR
  | cons i is ih =>
    intro x x' a w ρ I done hnd hdone hR hF1 hn h hQ
    simp only [yOps] at h
    cases hs : yStep C call yh ops base i x with
    | none => simp [hs] at h
    | some x1 =>
      simp only [hs, Option.bind_some] at h
      rw [wpOpsIn_cons]
      have hnd' := List.nodup_cons.1 hnd
      refine y_step_sound hcall hy hR hF1 hn hbase (hdone i (by simp)) hok hs fun ρ1 I1 a1 w1 hR1 hF1' hn1 => ?_
      refine ih x1 x' a1 w1 ρ1 I1 (fun j => done j ∨ j = i) hnd'.2 (fun j hj hd => ?_) hR1 hF1' hn1 h hQ
      rcases hd with hd | rfl
      · exact hdone j (by simp [hj]) hd
      · exact hnd'.1 hj

theorem y_code_sound {call : CallF} (hcall : CallSound C call) {c : YC} {yh : YF} (hy : YSound C lo c yh) {nn n : Nat} : ∀ (cd : Code) (ρ : Ren) (I : Nat → Prop) (x x' : YS) (a : Act) (w : World) (e : AExit) (Q : Exit → Act → World → Prop),
    codeOk nt cd = true → YRel C nt lo c ρ I x a w → yCode C call yh n cd x = some (e, x') → (∀ ρ' I' a' w', YRel C nt lo c ρ' I' x' a' w' → Q (exitOf e) a' w') → cd.wpIn Fence.wide nn C.P Q a w := by
  intro cd
  induction cd with
  | skip =>
    intro ρ I x x' a w e Q _ hR h hQ
    simp only [yCode, Option.some.injEq, Prod.mk.injEq] at h
    obtain ⟨rfl, rfl⟩ := h
    exact wpIn_skip (hQ ρ I a w hR)
  | region id ops draw =>
    intro ρ I x x' a w e Q hok hR h hQ
    simp only [yCode] at h
    split at h
    · cases h
    · rename_i hdr
      have hdf : draw = false := by simpa using hdr
      subst hdf
      obtain ⟨x1, h1, h2⟩ := Option.map_eq_some_iff.1 h
      cases h2
      refine wpIn_region (y_ops_sound (nt := nt) (ρb := ρ) hcall hy hR.yb.nx (by simpa [codeOk] using hok) _ ⟨reserve x.st ops.size, x.y, x.p⟩ _ a w ρ I (fun _ => False) List.nodup_range (fun _ _ h => h)
        ⟨⟨⟨hR.rel.mem.cells, hR.rel.mem.rw, hR.rel.mem.ro, hR.rel.mem.inj, hR.rel.mem.imm⟩, hR.rel.env, hR.rel.size, hR.rel.defers, hR.rel.globals, hR.rel.glob, fun id hid => hR.rel.fresh id (by simp only [reserve] at hid; omega)⟩, hR.y, hR.df,
          ⟨hR.yb.env, hR.yb.marks, ⟨hR.yb.fr.ext, hR.yb.fr.size, hR.yb.fr.same, hR.yb.fr.owns, hR.yb.fr.news, hR.yb.fr.os, hR.yb.fr.tape, hR.yb.fr.output⟩, hR.yb.old, Nat.le_trans hR.yb.nx (Nat.le_add_right _ _), hR.yb.new, hR.yb.ni⟩, hR.rc⟩
        ⟨fun _ _ => rfl, fun j _ _ => hR.rel.fresh _ (by omega)⟩ (Nat.le_refl _) h1 hQ)
  | seq y z ihx ihy =>
    intro ρ I x x' a w e Q hok hR h hQ
    simp only [codeOk, Bool.and_eq_true] at hok
    simp only [yCode] at h
    split at h
    · rename_i x1 hx1
      exact wpIn_seq (ihx ρ I x x1 a w .normal _ hok.1 hR hx1 fun ρ1 I1 a1 w1 hp => ihy ρ1 I1 x1 x' a1 w1 e Q hok.2 hp h hQ)
    · rename_i hne
      have he : e ≠ .normal := fun e' => hne x' (by rw [h, e'])
      refine wpIn_seq (ihx ρ I x x' a w e _ hok.1 hR h fun ρ1 I1 a1 w1 hp => ?_)
      have := hQ ρ1 I1 a1 w1 hp
      cases e with
      | normal => exact absurd rfl he
      | exit id => exact this
      | ret => exact this
  | cond y z1 z2 ihy ihz =>
    intro ρ I x x' a w e Q hok hR h hQ
    simp only [codeOk, Bool.and_eq_true] at hok
    simp only [yCode] at h
    split at h
    · rename_i t ht
      have hv := hR.rel.opd y
      rw [ht] at hv
      have hv := hv.bool_inv
      cases t with
      | true => exact wpIn_cond_true hv (ihy ρ I x x' a w e Q hok.1 hR (by simpa using h) hQ)
      | false => exact wpIn_cond_false hv (ihz ρ I x x' a w e Q hok.2 hR (by simpa using h) hQ)
    · cases h
  | block id y ih =>
    intro ρ I x x' a w e Q hok hR h hQ
    simp only [codeOk] at hok
    simp only [yCode] at h
    split at h
    · rename_i id' x1 hx1
      split at h
      · rename_i hid
        cases h
        refine wpIn_block (ih ρ I x x' a w (.exit id') _ hok hR hx1 fun ρ1 I1 a1 w1 hp => ?_)
        simp only [exitOf, Exit.inBlock, hid, if_true]
        exact hQ ρ1 I1 a1 w1 hp
      · rename_i hid
        cases h
        refine wpIn_block (ih ρ I x x' a w (.exit id') _ hok hR hx1 fun ρ1 I1 a1 w1 hp => ?_)
        simp only [exitOf, Exit.inBlock, hid, if_false]
        exact hQ ρ1 I1 a1 w1 hp
    · rename_i hne
      refine wpIn_block (ih ρ I x x' a w e _ hok hR h fun ρ1 I1 a1 w1 hp => ?_)
      have := hQ ρ1 I1 a1 w1 hp
      cases e with
      | normal => exact this
      | exit id' => exact absurd (by rw [h]) (hne id' x')
      | ret => exact this
  | loop y ih =>
    intro ρ I x x' a w e Q hok hR h hQ
    simp only [codeOk] at hok
    simp only [yCode] at h
    let G : Nat → Act → World → Prop := fun k a1 w1 => ∃ (ρ1 : Ren) (I1 : Nat → Prop) (x1 : YS), YRel C nt lo c ρ1 I1 x1 a1 w1 ∧ yLoop (yCode C call yh n y) k x1 = some (e, x')
    have h0 : G n a w := ⟨ρ, I, x, hR, h⟩
    refine wpIn_loop (fun a1 w1 => ∃ k, G k a1 w1) (fun a1 w1 => leastOf fun k => G k a1 w1) ⟨n, h0⟩ ?_
    intro a1 w1 hG
    have hfind := (leastOf_spec hG).1
    generalize (leastOf fun k => G k a1 w1) = k at hfind ⊢
    obtain ⟨ρ1, I1, x1, r1, r5⟩ := hfind
    cases k with
    | zero => simp [yLoop] at r5
    | succ k =>
      simp only [yLoop] at r5
      split at r5
      · rename_i x2 hx2
        refine ih ρ1 I1 x1 x2 a1 w1 .normal _ hok r1 hx2 fun ρ2 I2 a2 w2 hp => ?_
        have hG2 : G k a2 w2 := ⟨ρ2, I2, x2, hp, r5⟩
        exact ⟨⟨k, hG2⟩, Nat.lt_succ_of_le ((leastOf_spec (p := fun k => G k a2 w2) ⟨k, hG2⟩).2 k hG2)⟩
      · rename_i hne
        have he : e ≠ .normal := fun e' => hne x' (by rw [r5, e'])
        refine ih ρ1 I1 x1 x' a1 w1 e _ hok r1 r5 fun ρ2 I2 a2 w2 hp => ?_
        have := hQ ρ2 I2 a2 w2 hp
        cases e with
        | normal => exact absurd rfl he
        | exit id => exact this
        | ret => exact this
  | exit id =>
    intro ρ I x x' a w e Q _ hR h hQ
    simp only [yCode, Option.some.injEq, Prod.mk.injEq] at h
    obtain ⟨rfl, rfl⟩ := h
    exact wpIn_exit (hQ ρ I a w hR)
  | ret =>
    intro ρ I x x' a w e Q _ hR h hQ
    simp only [yCode, Option.some.injEq, Prod.mk.injEq] at h
    obtain ⟨rfl, rfl⟩ := h
    exact wpIn_ret (hQ ρ I a w hR)
  | _ => intros; rename_i h _; simp [yCode] at h

theorem range_sound {call : CallF} (hcall : CallSound C call) {n nn : Nat} {g : Operand} {ps : Array Tmp} {assign body : Code} {fa fb : St → Option (AExit × St)} (ha : Snd C nt lo assign fa) (hb : Snd C nt lo body fb) (hp : ∀ p ∈ ps.toList, p < nt)
    {s s' : St} {a : Act} {e : AExit} {Q : Exit → Act → World → Prop} (hR : Rel C nt lo ρ I s a w) (h : rangeF C call n g ps fa fb s = some (e, s'))
    (hQ : ∀ a' w', CodePost C nt lo ρ I s.mem w e s' a' w' → Q (exitOf e) a' w') : (Code.rangeFunc g ps assign body).wpIn Fence.wide nn C.P Q a w := by
  unfold rangeF at h
  split at h
  · rename_i f captured hg
    split at h
    · rename_i fn hfn
      split at h
      · rename_i code hcode
        split at h
        · rename_i hc
          obtain ⟨hflat, hok, hlen, hname, hres⟩ := hc
          have hv := hR.opd g
          rw [hg] at hv
          obtain ⟨vs, us, hv, g1, g2⟩ := hv.fn_inv
          have hvs : vs = #[] := by
            have := g1.1
            simp at this
            exact Array.size_eq_zero_iff.1 this.symm
          subst hvs
          have hul : captured.length = us.size := by have := g2.1; simpa using this
          refine wpIn_rangeFunc ?_
          intro fn0 _
          let D := w.heap.size
          let l := w.heap.size + 1
          let c : YC := { l, D, fn := fn0, T := a.tmps, ps, assign, body, env := s.env, ds := mark D :: a.defers, ρ, I, m := s.mem, w }
          obtain ⟨W1, hW1⟩ : ∃ W1, (w.alloc (.deferred (some []))).alloc (.loop (c.now none)) = W1 := ⟨_, rfl⟩
          have hsz : W1.heap.size = w.heap.size + 2 := by rw [← hW1]; simp
          have hold : ∀ b, b < w.heap.size → W1.heap[b]? = w.heap[b]? := fun b hb => by
            rw [← hW1]
            exact (Go.RowKit.Below.heap_alloc _ _ _ (by simp; omega)).trans (Go.RowKit.Below.heap_alloc _ _ _ hb)
          have hD : W1.heap[D]? = some (.deferred (some [])) := by
            rw [← hW1]; exact (Go.RowKit.Below.heap_alloc _ _ _ (by simp [D])).trans (World.alloc_heap_new w _)
          have hl : W1.heap[l]? = some (.loop (c.now none)) := by
            rw [← hW1]
            have := World.alloc_heap_new (w.alloc (.deferred (some []))) (.loop (c.now none))
            rwa [World.size_alloc] at this
          have hE : Ext ρ I w ρ I W1 := ⟨fun _ _ h => h, fun _ h => h, fun b hb => hold b (hR.mem.imm b hb), fun b cur t fr hb => ⟨cur, fr, (hold b (heap_lt' hb)).trans hb, rfl⟩⟩
          have own_lt : ∀ b, Owned ρ s.mem b → b < w.heap.size ∧ ¬ I b := fun b ⟨id, base, q1, q2⟩ => by
            obtain ⟨b', base', cur, t, p1, p2, p3, _⟩ := hR.mem.rw id q1
            rw [q2] at p1
            cases p1
            exact ⟨heap_lt' p3, p2⟩
          have hM : MemR ρ I W1 s.mem := hR.mem.ext hE (fun b hb => hold b (own_lt b hb).1) (fun b hb => by have := hR.mem.imm b hb; omega) (fun b hb => (own_lt b hb).2)
          have hFr : Fr ρ I s.mem w ρ I s.mem W1 := ⟨hE, by omega, fun b hb _ => hold b hb, fun _ _ h => h, fun _ _ h => .inl h, by rw [← hW1]; rfl, by rw [← hW1]; rfl, by rw [← hW1]; rfl⟩
          have hmk : Marks lo I (mark D :: a.defers) W1 := by
            obtain ⟨m1, Ds, m2, m3, m4⟩ := hR.defers
            refine ⟨by omega, D :: Ds, by rw [m2]; rfl, List.nodup_cons.2 ⟨fun hD' => ?_, m3⟩, fun D' hD' => ?_⟩
            · have := heap_lt' (m4 D hD').2.2
              exact absurd this (Nat.lt_irrefl _)
            · rcases List.mem_cons.1 hD' with rfl | hD'
              · exact ⟨m1, fun hi => absurd (hR.mem.imm _ hi) (Nat.lt_irrefl _), hD⟩
              · exact ⟨(m4 D' hD').1, (m4 D' hD').2.1, (hold D' (heap_lt' (m4 D' hD').2.2)).trans (m4 D' hD').2.2⟩
          have hyb : YB lo c ρ I s.mem W1 := ⟨fun t => (hR.env t).ext hE, hmk, hFr, fun _ _ => rfl, Nat.le_refl _, Nat.le_succ _, fun hi => by have := hR.mem.imm _ hi; simp only [c, l] at this; omega⟩
          refine ⟨l, [mark D], W1, { target := .fn (.func f) us, args := #[.func (.yield l) #[] #[]] }, W1, f, #[Value.func (.yield l) #[] #[]] ++ us, W1, ?_, ?_, ?_, ?_, (fun hs => by cases hs), ?_⟩
          · rw [← hW1]; exact run_enterLoop_outer _ _ _ _ _
          · simp only [resolve, hv]
            simp [go_sem]
          · intro f' _; trivial
          · have hnm' : ¬ fn.name = "runtime.NumGoroutine" := by simpa using hname
            simp [invoke, callFunc, hfn, hcode, hnm']
          · cases hx : yCode C call (roundF s.env ps fa fb) n code ⟨⟨yEnv captured, s.mem⟩, [0], none⟩ with
            | none => rw [hx] at h; cases h
            | some r =>
              obtain ⟨e0, x⟩ := r
              rw [hx] at h
              refine callsIn_of_wp hfn hcode trivial ?_ rfl
              have hyr : YRel C fn.ntmps lo c ρ I ⟨⟨yEnv captured, s.mem⟩, [0], none⟩ { tmps := (#[Value.func (.yield l) #[] #[]] ++ us) ++ Array.replicate (fn.ntmps - (#[Value.func (.yield l) #[] #[]] ++ us).size) undef, defers := [] } W1 := by
                refine ⟨⟨hM, fun t => ?_, by simp; omega, ⟨hmk.low, [], rfl, List.nodup_nil, by simp⟩, hR.globals, hR.glob.ext (fun _ h => h) hE.keep, hR.fresh⟩, fun t ht => ?_, rfl, hyb, hl⟩
                · cases t with
                  | zero => exact .vi _ _ (.junk _)
                  | succ t =>
                    simp only [yEnv, List.getElem?_cons_succ, Array.getD_eq_getD_getElem?]
                    by_cases ht : t < us.size
                    · have e1 : captured[t]? = some (captured[t]'(by omega)) := List.getElem?_eq_getElem _
                      have e2 : ((#[Value.func (.yield l) #[] #[]] ++ us) ++ Array.replicate (fn.ntmps - (#[Value.func (.yield l) #[] #[]] ++ us).size) undef)[t + 1]? = some us[t] := by
                        rw [Array.getElem?_append_left (by simp; omega), Array.getElem?_append_right (by simp)]
                        simp [ht]
                      rw [e1, e2]
                      exact (g2.2 t _ _ e1 (by simp [ht])).ext hE
                    · have e1 : captured[t]? = none := List.getElem?_eq_none (by omega)
                      have e2 : (((#[Value.func (.yield l) #[] #[]] ++ us) ++ Array.replicate (fn.ntmps - (#[Value.func (.yield l) #[] #[]] ++ us).size) undef)[t + 1]?).getD undef = undef := by
                        rw [Array.getElem?_append_right (by simp; omega)]
                        simp only [Array.getElem?_replicate]
                        split <;> rfl
                      rw [e1, e2]
                      exact VR.tup_mk (VRs.nil _ _ _)
                · have : t = 0 := by simpa using ht
                  subst this
                  simp only [Array.getD_eq_getD_getElem?, c]
                  rw [Array.getElem?_append_left (by simp; omega), Array.getElem?_append_left (by simp)]
                  rfl
              refine y_code_sound hcall (c := c) (round_sound (c := c) ha hb hR.size hp) code ρ I _ x _ W1 e0 _ hok hyr hx fun ρ' I' a' w' hp' => ?_
              have fin : ∀ (e1 : AExit), (match x.p with | none => AExit.normal | some e => e) = e1 → rangePost Fence.wide nn C.P l (fun ex a w => Q ex a w) { a with defers := [mark D] ++ a.defers } (.returned (.tuple #[])) w' ∨ True := fun _ _ => .inr trivial
              clear fin
              have hend := run_endLoop (P := C.P) hp'.rc (by cases x.p <;> simp [YC.now, YC.rc])
              have y4 := hp'.yb.put (.loop { c.now x.p with state := .exhausted }) hp'.rc
              have r4 := hp'.rel.put (.loop { c.now x.p with state := .exhausted }) hp'.rc hp'.yb.ni
              have post : CodePost C nt lo ρ I s.mem w (match x.p with | none => AExit.normal | some e => e) ⟨s.env, x.st.mem⟩ { a with defers := [mark D] ++ a.defers } (w'.putObj l (.loop { c.now x.p with state := .exhausted })) :=
                ⟨ρ', I', ⟨r4.mem, y4.env, hR.size, y4.marks, r4.globals, r4.glob, r4.fresh⟩, y4.fr, y4.old, y4.nx⟩
              have rp : ∀ v, (match x.p with | none => AExit.normal | some e => e) = e → s' = ⟨s.env, x.st.mem⟩ → rangePost Fence.wide nn C.P l Q { a with defers := [mark D] ++ a.defers } (.returned v) w' := by
                intro v he hs'
                subst hs'
                refine ⟨_, _, hend, ?_⟩
                cases hxp : x.p with
                | none =>
                  rw [hxp] at he post
                  simp only [] at he
                  subst he
                  exact hQ _ _ post
                | some e1 =>
                  rw [hxp] at he post
                  simp only [] at he
                  subst he
                  have := hQ _ _ post
                  cases e1 with
                  | normal => exact wpIn_skip this
                  | exit id => exact wpIn_exit this
                  | ret => exact wpIn_ret this
              have hfr : fn.results = #[] := by simpa using hres
              have hrun : (results fn a'.tmps).run C.P w' = .ok (.tuple #[]) w' := by simp [results, hfr]
              cases e0 with
              | exit id => cases h
              | normal =>
                refine ⟨hp'.df, _, hrun, rp _ ?_ ?_⟩
                · cases hxp : x.p <;> simp [rangeEnd, hxp] at h ⊢ <;> exact h.1
                · cases hxp : x.p <;> simp [rangeEnd, hxp] at h ⊢ <;> exact h.2.symm
              | ret =>
                refine ⟨hp'.df, _, hrun, rp _ ?_ ?_⟩
                · cases hxp : x.p <;> simp [rangeEnd, hxp] at h ⊢ <;> exact h.1
                · cases hxp : x.p <;> simp [rangeEnd, hxp] at h ⊢ <;> exact h.2.symm
        · cases h
      · cases h
    · cases h
  · cases h

theorem code_sound {call : CallF} (hcall : CallSound C call) {n : Nat} : ∀ (c : Code) (F : Fence) (nn : Nat), WideF F → (F.round = none ∨ flat c = true) → ∀ (ρ : Ren) (I : Nat → Prop) (s s' : St) (a : Act) (w : World) (e : AExit) (Q : Exit → Act → World → Prop),
    codeOk nt c = true → Rel C nt lo ρ I s a w → aCode C call n c s = some (e, s') → (∀ a' w', CodePost C nt lo ρ I s.mem w e s' a' w' → Q (exitOf e) a' w') → c.wpIn F nn C.P Q a w := by
  intro c
  induction c with
  | skip =>
    intro F nn hF hfl ρ I s s' a w e Q _ hR h hQ
    simp only [aCode, Option.some.injEq, Prod.mk.injEq] at h
    obtain ⟨rfl, rfl⟩ := h
    exact wpIn_skip (hQ a w ⟨ρ, I, hR, Fr.refl _ _ _ _, fun _ _ => rfl, Nat.le_refl _⟩)
  | region id ops draw =>
    intro F nn hF hfl ρ I s s' a w e Q hok hR h hQ
    simp only [aCode] at h
    cases hr : aRegion C call ops draw s with
    | none => simp [hr] at h
    | some s1 =>
      simp only [hr, Option.map_some, Option.some.injEq, Prod.mk.injEq] at h
      obtain ⟨rfl, rfl⟩ := h
      exact region_sound hF hcall hR (by simpa [codeOk] using hok) hr hQ
  | seq x y ihx ihy =>
    intro F nn hF hfl ρ I s s' a w e Q hok hR h hQ
    simp only [codeOk, Bool.and_eq_true] at hok
    simp only [aCode] at h
    split at h
    · rename_i s1 hs1
      refine wpIn_seq (ihx F nn hF (hfl.imp id fun h => (Bool.and_eq_true _ _ ▸ h).1) ρ I s s1 a w .normal _ hok.1 hR hs1 fun a1 w1 hp => ?_)
      obtain ⟨ρ1, I1, q1, q2, q3, q4⟩ := hp
      refine ihy F nn hF (hfl.imp id fun h => (Bool.and_eq_true _ _ ▸ h).2) ρ1 I1 s1 s' a1 w1 e Q hok.2 q1 h fun a2 w2 hp2 => ?_
      obtain ⟨ρ2, I2, p1, p2, p3, p4⟩ := hp2
      exact hQ a2 w2 ⟨ρ2, I2, p1, q2.trans p2, fun id hid => (p3 id (by omega)).trans (q3 id hid), by omega⟩
    · rename_i hne
      have he : e ≠ .normal := fun e' => hne s' (by rw [h, e'])
      refine wpIn_seq (ihx F nn hF (hfl.imp id fun h => (Bool.and_eq_true _ _ ▸ h).1) ρ I s s' a w e _ hok.1 hR h fun a1 w1 hp => ?_)
      have := hQ a1 w1 hp
      cases e with
      | normal => exact absurd rfl he
      | exit id => exact this
      | ret => exact this
  | cond x y z ihy ihz =>
    intro F nn hF hfl ρ I s s' a w e Q hok hR h hQ
    simp only [codeOk, Bool.and_eq_true] at hok
    simp only [aCode] at h
    split at h
    · rename_i t ht
      have hv := hR.opd x
      rw [ht] at hv
      have hv := hv.bool_inv
      cases t with
      | true => exact wpIn_cond_true hv (ihy F nn hF (hfl.imp id fun h => (Bool.and_eq_true _ _ ▸ h).1) ρ I s s' a w e Q hok.1 hR (by simpa using h) hQ)
      | false => exact wpIn_cond_false hv (ihz F nn hF (hfl.imp id fun h => (Bool.and_eq_true _ _ ▸ h).2) ρ I s s' a w e Q hok.2 hR (by simpa using h) hQ)
    · cases h
  | block id x ih =>
    intro F nn hF hfl ρ I s s' a w e Q hok hR h hQ
    simp only [codeOk] at hok
    simp only [aCode] at h
    split at h
    · rename_i id' s1 hs1
      split at h
      · rename_i hid
        cases h
        refine wpIn_block (ih F nn hF hfl ρ I s s' a w (.exit id') _ hok hR hs1 fun a1 w1 hp => ?_)
        simp only [exitOf, Exit.inBlock, hid, if_true]
        exact hQ a1 w1 hp
      · rename_i hid
        cases h
        refine wpIn_block (ih F nn hF hfl ρ I s s' a w (.exit id') _ hok hR hs1 fun a1 w1 hp => ?_)
        simp only [exitOf, Exit.inBlock, hid, if_false]
        exact hQ a1 w1 hp
    · rename_i hne
      refine wpIn_block (ih F nn hF hfl ρ I s s' a w e _ hok hR h fun a1 w1 hp => ?_)
      have := hQ a1 w1 hp
      cases e with
      | normal => exact this
      | exit id' => exact absurd (by rw [h]) (hne id' s')
      | ret => exact this
  | loop x ih =>
    intro F nn hF hfl ρ I s s' a w e Q hok hR h hQ
    simp only [codeOk] at hok
    simp only [aCode] at h
    exact loop_sound (fun ρ I s a w e s' Q hR h hQ => ih F nn hF hfl ρ I s s' a w e Q hok hR h hQ) hR h hQ
  | exit id =>
    intro F nn hF hfl ρ I s s' a w e Q _ hR h hQ
    simp only [aCode, Option.some.injEq, Prod.mk.injEq] at h
    obtain ⟨rfl, rfl⟩ := h
    exact wpIn_exit (hQ a w ⟨ρ, I, hR, Fr.refl _ _ _ _, fun _ _ => rfl, Nat.le_refl _⟩)
  | ret =>
    intro F nn hF hfl ρ I s s' a w e Q _ hR h hQ
    simp only [aCode, Option.some.injEq, Prod.mk.injEq] at h
    obtain ⟨rfl, rfl⟩ := h
    exact wpIn_ret (hQ a w ⟨ρ, I, hR, Fr.refl _ _ _ _, fun _ _ => rfl, Nat.le_refl _⟩)
  | rangeFunc g ps x y ihx ihy =>
    intro F nn hF hfl ρ I s s' a w e Q hok hR h hQ
    simp only [codeOk, Bool.and_eq_true] at hok
    simp only [aCode] at h
    have hr : F.round = none := by
      rcases hfl with h | h
      · exact h
      · cases h
    rw [hF.round hr]
    exact range_sound hcall (fun F nn hF ρ I s s' a w e Q hR h hQ => ihx F nn hF (.inr hok.2.2.1) ρ I s s' a w e Q hok.1 hR h hQ)
      (fun F nn hF ρ I s s' a w e Q hR h hQ => ihy F nn hF (.inr hok.2.2.2.1) ρ I s s' a w e Q hok.2.1 hR h hQ) (fun p hp => by simpa using List.all_eq_true.1 hok.2.2.2.2 p hp) hR h hQ
  | _ => intros; rename_i h _; simp [aCode] at h
end
end Go.Ab
end
section
/- The abstract machine, tenth part: freezing, and the theorem on calls. -/
set_option linter.unusedVariables false
set_option linter.unusedSimpArgs false
namespace Go.Ab

/-- Rows made immutable: the world is the same. -/
structure FZ (ρ : Ren) (I : Nat → Prop) (m : Mem) (w : World) (I' : Nat → Prop) (m' : Mem) : Prop where
  mem : MemR ρ I' w m'
  sub : ∀ b, I b → I' b
  news : ∀ b, I' b → I b ∨ Owned ρ m b
  rw : ∀ id, m'.mode id = .rw → m.mode id = .rw
  next : m'.next = m.next

section
variable {C : Cfg} {nt lo : Nat} {ρ : Ren} {I : Nat → Prop} {w : World}

theorem FZ.refl {m : Mem} (h : MemR ρ I w m) : FZ ρ I m w I m := ⟨h, fun _ h => h, fun _ h => .inl h, fun _ h => h, rfl⟩
theorem FZ.trans {m m' m'' : Mem} {I' I'' : Nat → Prop} (h : FZ ρ I m w I' m') (k : FZ ρ I' m' w I'' m'') : FZ ρ I m w I'' m'' :=
  ⟨k.mem, fun b hb => k.sub b (h.sub b hb), fun b hb => (k.news b hb).elim (h.news b) (fun ⟨id, base, q1, q2⟩ => .inr ⟨id, base, h.rw id q1, q2⟩), fun id hid => h.rw id (k.rw id hid), k.next.trans h.next⟩
theorem FZ.ext {m m' : Mem} {I' : Nat → Prop} (h : FZ ρ I m w I' m') : Ext ρ I w ρ I' w := ⟨fun _ _ h => h, h.sub, fun _ _ => rfl, Grows.refl w⟩

theorem MemR.freeze {m : Mem} (h : MemR ρ I w m) {id b base : Nat} (hl : m.mode id ≠ .dead) (hr : ρ id = some (b, base)) :
    FZ ρ I m w (fun x => I x ∨ x = b) { m with mode := upd m.mode id .ro } := by
  have hE : Ext ρ I w ρ (fun x => I x ∨ x = b) w := ⟨fun _ _ h => h, fun _ h => .inl h, fun _ _ => rfl, Grows.refl w⟩
  obtain ⟨b0, base0, cur0, e0, fr0, p1, p2, p3⟩ := h.live hl
  rw [hr] at p1
  cases p1
  have hb : ¬ I b → m.mode id = .rw := by
    intro hn
    cases hm : m.mode id with
    | dead => exact absurd hm hl
    | rw => rfl
    | ro =>
      obtain ⟨b', base', _, _, _, q1, q2, _⟩ := h.ro id hm
      rw [hr] at q1
      cases q1
      exact absurd q2 hn
  have hne : ∀ i, upd m.mode id Md.ro i = .rw → i ≠ id ∧ m.mode i = .rw := fun i hi => by
    unfold upd at hi
    split at hi
    · cases hi
    · rename_i hne; exact ⟨hne, hi⟩
  refine ⟨⟨?_, ?_, ?_, ?_, ?_⟩, fun _ h => .inl h, ?_, fun i hi => (hne i hi).2, rfl⟩
  · intro i o a hli ha
    have hli' : m.mode i ≠ .dead := by
      by_cases hi : i = id
      · subst hi; exact hl
      · simpa [upd, hi] using hli
    obtain ⟨b', base', v, q1, q2, q3, q4⟩ := h.cells i o a hli' ha
    exact ⟨b', base', v, q1, q2, q3, q4.ext hE⟩
  · intro i hi
    obtain ⟨g1, g2⟩ := hne i hi
    obtain ⟨b', base', cur, e, q1, q2, q3, q4⟩ := h.rw i g2
    refine ⟨b', base', cur, e, q1, fun hx => ?_, q3, q4⟩
    rcases hx with hx | rfl
    · exact q2 hx
    · exact g1 (h.inj i id b' base' base g2 (hb q2) q1 hr)
  · intro i hi
    by_cases hid : i = id
    · subst hid
      exact ⟨b, base, cur0, e0, fr0, hr, .inr rfl, p2, p3⟩
    · obtain ⟨b', base', cur, e, fr, q1, q2, q3, q4⟩ := h.ro i (by simpa [upd, hid] using hi)
      exact ⟨b', base', cur, e, fr, q1, .inl q2, q3, q4⟩
  · intro i i' b1 b2 b3 q1 q2 r1 r2
    exact h.inj i i' b1 b2 b3 (hne i q1).2 (hne i' q2).2 r1 r2
  · intro b' hb'
    rcases hb' with hb' | rfl
    · exact h.imm b' hb'
    · exact heap_lt p2
  · intro b' hb'
    rcases hb' with hb' | rfl
    · exact .inl hb'
    · by_cases hI : I b'
      · exact .inl hI
      · exact .inr ⟨id, base, hb hI, hr⟩

def VIs (I : Nat → Prop) (w : World) (xs : List AVal) (vs : List Value) : Prop :=
  xs.length = vs.length ∧ ∀ (j : Nat) (a : AVal) (v : Value), xs[j]? = some a → vs[j]? = some v → VI I w a v

theorem VIs.vrs {xs : List AVal} {vs : List Value} (h : VIs I w xs vs) : VRs ρ I w xs vs := ⟨h.1, fun j a v ha hv => .vi _ _ (h.2 j a v ha hv)⟩

theorem freezeL_sound {fr : AVal → Mem → Option (AVal × Mem)}
    (hfr : ∀ (a a' : AVal) (m m' : Mem) (I : Nat → Prop) (v : Value), MemR ρ I w m → VR ρ I w a v → fr a m = some (a', m') → ∃ I', FZ ρ I m w I' m' ∧ VI I' w a' v) :
    ∀ (xs xs' : List AVal) (m m' : Mem) (I : Nat → Prop) (vs : List Value), MemR ρ I w m → VRs ρ I w xs vs → freezeL fr xs m = some (xs', m') →
      ∃ I', FZ ρ I m w I' m' ∧ VIs I' w xs' vs := by
  intro xs
  induction xs with
  | nil =>
    intro xs' m m' I vs hm hv h
    simp only [freezeL, Option.some.injEq, Prod.mk.injEq] at h
    obtain ⟨rfl, rfl⟩ := h
    exact ⟨I, FZ.refl hm, hv.1, fun j a v ha => by simp at ha⟩
  | cons x xs ih =>
    intro xs' m m' I vs hm hv h
    cases vs with
    | nil => simp [VRs] at hv
    | cons v vs =>
      simp only [freezeL] at h
      split at h
      · rename_i a' m1 h1
        split at h
        · rename_i r' m2 h2
          cases h
          obtain ⟨I1, f1, g1⟩ := hfr x a' m m1 I v hm (hv.2 0 x v rfl rfl) h1
          have hrest : VRs ρ I1 w xs vs := VRs.ext (w := w) (ρ := ρ) (I := I) ⟨by simpa using hv.1, fun j a u ha hu => hv.2 (j + 1) a u (by simpa using ha) (by simpa using hu)⟩ f1.ext
          obtain ⟨I2, f2, g2⟩ := ih r' m1 m' I1 vs f1.mem hrest h2
          refine ⟨I2, f1.trans f2, by simp [g2.1], fun j a u ha hu => ?_⟩
          cases j with
          | zero => simp at ha hu; subst ha; subst hu; exact g1.ext f2.sub (fun _ _ => rfl)
          | succ j => exact g2.2 j a u (by simpa using ha) (by simpa using hu)
        · cases h
      · cases h

theorem freezeV_sound : ∀ (d : Nat) (a a' : AVal) (m m' : Mem) (I : Nat → Prop) (v : Value), MemR ρ I w m → VR ρ I w a v → freezeV d a m = some (a', m') →
    ∃ I', FZ ρ I m w I' m' ∧ VI I' w a' v := by
  intro d
  induction d with
  | zero => intro a a' m m' I v _ _ h; simp [freezeV] at h
  | succ d ih =>
    intro a a' m m' I v hm hv h
    have same : ∀ (hvi : VI I w a v), some (a, m) = some (a', m') → ∃ I', FZ ρ I m w I' m' ∧ VI I' w a' v := fun hvi e => by
      cases e
      exact ⟨I, FZ.refl hm, hvi⟩
    simp only [freezeV] at h
    split at h
    · rename_i id off n sz
      split at h
      · cases h
      · rename_i hl
        split at h
        · rename_i cs hcs
          split at h
          · rename_i cs' m2 hf
            cases h
            have hrho : ∃ b base, ρ id = some (b, base) := by
              obtain ⟨b, base, _, _, _, p1, _⟩ := hm.live hl
              exact ⟨b, base, p1⟩
            obtain ⟨b, base, hr⟩ := hrho
            have f1 := hm.freeze hl hr
            obtain ⟨hlen, us, q1, q2, q3⟩ := cellsAt_spec hm hl hr _ _ _ hcs
            obtain ⟨I2, f2, g2⟩ := freezeL_sound ih cs cs' _ m' _ us f1.mem (q1.ext f1.ext) hf
            refine ⟨I2, f1.trans f2, ?_⟩
            cases hv with
            | vi _ _ hv => cases hv
            | own0 _ _ _ a x hr' =>
              have : us = [] := List.eq_nil_of_length_eq_zero (by rw [← q1.1, hlen]; simp)
              subst this
              have : cs' = [] := List.eq_nil_of_length_eq_zero (by rw [g2.1]; rfl)
              subst this
              exact .imm0 a 0
            | own _ _ _ _ c b' base' cur el fr hr' hb hn hcap =>
              rw [hr] at hr'
              cases hr'
              refine .imm n c b (base + off) cs' (fun j => us.getD j undef) (f2.sub b (.inr rfl)) hn (fun j a hj => ?_) (fun j a hj => ?_)
              · have hlt : j < us.length := by rw [← g2.1]; exact (List.getElem?_eq_some_iff.1 hj).1
                have hu : us[j]? = some us[j] := List.getElem?_eq_getElem hlt
                simp only [List.getD_eq_getElem?_getD, hu, Option.getD_some]
                exact ⟨q3 j _ hu, q2 j _ hu⟩
              · have hlt : j < us.length := by rw [← g2.1]; exact (List.getElem?_eq_some_iff.1 hj).1
                have hu : us[j]? = some us[j] := List.getElem?_eq_getElem hlt
                simp only [List.getD_eq_getElem?_getD, hu, Option.getD_some]
                exact g2.2 j a _ hj hu
          · cases h
        · cases h
    · rename_i cs
      split at h
      · rename_i cs' m2 hf
        cases h
        obtain ⟨vs, rfl, g1, g2⟩ := hv.agg_inv
        obtain ⟨I2, f2, k2⟩ := freezeL_sound ih cs cs' m m' I vs.toList hm g1 hf
        exact ⟨I2, f2, .agg cs' vs (by simpa using k2.1) (fun j v hv => g2 j v (by simpa using hv)) fun j a v ha hv => k2.2 j a v ha (by simpa using hv)⟩
      · cases h
    · rename_i cs
      split at h
      · rename_i cs' m2 hf
        cases h
        obtain ⟨vs, rfl, g1⟩ := hv.tup_inv
        obtain ⟨I2, f2, k2⟩ := freezeL_sound ih cs cs' m m' I vs.toList hm g1 hf
        exact ⟨I2, f2, .tup cs' vs (by simpa using k2.1) fun j a v ha hv => k2.2 j a v ha (by simpa using hv)⟩
      · cases h
    · cases h
    · rename_i f x y
      split at h
      · rename_i hc
        cases h
        simp only [Bool.and_eq_true, List.isEmpty_iff] at hc
        obtain ⟨rfl, rfl⟩ := hc
        obtain ⟨vs, us, rfl, g1, g2⟩ := hv.fn_inv
        have e1 : vs.size = 0 := by have := g1.1; simpa using this.symm
        have e2 : us.size = 0 := by have := g2.1; simpa using this.symm
        exact ⟨I, FZ.refl hm, .fn f [] [] vs us e1.symm e2.symm (fun j a v ha => by simp at ha) (fun j a v ha => by simp at ha)⟩
      · cases h
    · rename_i h1 h2 h3 h4 h5
      refine same ?_ h
      cases hv with
      | vi _ _ hv => exact hv
      | ptr => exact absurd rfl (h4 _ _)
      | own0 => exact absurd rfl (h1 _ _ _ _)
      | own => exact absurd rfl (h1 _ _ _ _)
      | fn => exact absurd rfl (h5 _ _ _)
      | agg => exact absurd rfl (h2 _)
      | tup => exact absurd rfl (h3 _)

def resSem (tmps : Array Value) : ResultVar → Sem Value
  | .tmp t => pure (tmps.getD t undef)
  | .cell b t => do loadVar t (← asAddr (tmps.getD b undef))

theorem resultA_sound {s : St} {a : Act} (hR : Rel C nt lo ρ I s a w) {r : ResultVar} {x : AVal} (h : resultA C s r = some x) :
    ∃ u, (resSem a.tmps r).run C.P w = .ok u w ∧ VR ρ I w x u := by
  cases r with
  | tmp t =>
    simp only [resultA, Option.some.injEq] at h
    subst h
    exact ⟨_, rfl, hR.env t⟩
  | cell b t =>
    simp only [resultA] at h
    split at h
    · rename_i id off hp
      have hv := hR.env b
      rw [hp] at hv
      obtain ⟨u, r1, r2⟩ := loadA_sound hR.mem hv h
      obtain ⟨b', base, hr, he⟩ := hv.ptr_inv
      refine ⟨u, ?_, r2⟩
      show ((do loadVar t (← asAddr (a.tmps.getD b undef))) : Sem Value).run C.P w = _
      rw [he] at r1 ⊢
      simpa [Instr.loadAt, Instr.sureAddr, asAddr] using r1
    · cases h

theorem resultsA_sound {s : St} {a : Act} (hR : Rel C nt lo ρ I s a w) : ∀ (rs : List ResultVar) (xs : List AVal), resultsA C s rs = some xs →
    ∃ us : List Value, (rs.mapM (resSem a.tmps)).run C.P w = Result.ok us w ∧ VRs ρ I w xs us := by
  intro rs
  induction rs with
  | nil => intro xs h; simp only [resultsA, Option.some.injEq] at h; subst h; exact ⟨[], rfl, VRs.nil _ _ _⟩
  | cons r rs ih =>
    intro xs h
    simp only [resultsA] at h
    split at h
    · rename_i x xs' hx hxs
      cases h
      obtain ⟨u, r1, r2⟩ := resultA_sound hR hx
      obtain ⟨us, k1, k2⟩ := ih xs' hxs
      refine ⟨u :: us, ?_, VRs.cons r2 k2⟩
      rw [List.mapM_cons]
      simp only [Sem.run_bind]
      rw [r1]
      simp only [Result.andThen_ok]
      rw [k1]
      rfl
    · cases h

theorem results_sound {s : St} {a : Act} (hR : Rel C nt lo ρ I s a w) {fn : Func} {xs : List AVal} (h : resultsA C s fn.results.toList = some xs) :
    ∃ u, (results fn a.tmps).run C.P w = .ok u w ∧ VR ρ I w (packA xs) u := by
  obtain ⟨us, k1, k2⟩ := resultsA_sound hR _ xs h
  have hm : (fn.results.mapM (resSem a.tmps)).run C.P w = .ok us.toArray w := by
    rw [Array.mapM_eq_mapM_toList]
    simp only [Sem.run_map, k1, Result.andThen_ok]
  have he : results fn a.tmps = (do let vs ← fn.results.mapM (resSem a.tmps); pure (if h : vs.size = 1 then vs[0] else .tuple vs)) := by
    unfold results
    congr 2
  refine ⟨if h : us.toArray.size = 1 then us.toArray[0] else .tuple us.toArray, ?_, ?_⟩
  · rw [he]
    simp only [Sem.run_bind, hm, Result.andThen_ok, Sem.run_pure]
  · cases us with
    | nil =>
      have : xs = [] := List.eq_nil_of_length_eq_zero (by rw [k2.1]; rfl)
      subst this
      simpa [packA] using VR.tup_mk (vs := #[]) (VRs.nil ρ I w)
    | cons u us =>
      cases us with
      | nil =>
        cases xs with
        | nil => simp [VRs] at k2
        | cons x xs =>
          have : xs = [] := List.eq_nil_of_length_eq_zero (by have := k2.1; simpa using this)
          subst this
          simpa [packA] using k2.2 0 x u rfl rfl
      | cons u2 us =>
        cases xs with
        | nil => simp [VRs] at k2
        | cons x xs =>
          cases xs with
          | nil => simp [VRs] at k2
          | cons x2 xs =>
            simp only [packA]
            rw [dif_neg (by simp)]
            exact VR.tup_mk (by simpa using k2)

theorem put_ext' {l : Nat} {o0 : Obj} (o : Obj) (hl : w.heap[l]? = some o0) (ho : ∀ cur e fr, o0 ≠ .cells cur e fr) (hi : ¬ I l) : Ext ρ I w ρ I (w.putObj l o) :=
  ⟨fun _ _ h => h, fun _ h => h, fun b hb => World.putObj_heap_other (fun e => hi (e ▸ hb)), fun b cur e fr hb => ⟨cur, fr, (World.putObj_heap_other (fun e' => by subst e'; rw [hl] at hb; exact ho _ _ _ (Option.some.inj hb))).trans hb, rfl⟩⟩

theorem put_mem' {m : Mem} {l : Nat} {o0 : Obj} (o : Obj) (hm : MemR ρ I w m) (hl : w.heap[l]? = some o0) (ho : ∀ cur e fr, o0 ≠ .cells cur e fr) (hi : ¬ I l) : MemR ρ I (w.putObj l o) m :=
  hm.ext (put_ext' o hl ho hi) (fun b hb => World.putObj_heap_other (fun e => not_owned hm hl ho (e ▸ hb))) (fun b hb => by rw [World.putObj_size]; exact hm.imm b hb)
    (fun b ⟨id, base, h1, h2⟩ hb => by
      obtain ⟨b', base', cur, e, h3, h4, _⟩ := hm.rw id h1
      rw [h2] at h3
      cases h3
      exact h4 hb)

theorem leaves_sound {ρ0 : Ren} {I0 : Nat → Prop} {m0 : Mem} {w0 : World} {s : St} {fn : Func} {T : Array Value} {xs : List AVal} (hx : resultsA C s fn.results.toList = some xs) (q3 : ∀ id, id < m0.next → ρ id = ρ0 id) (q4 : m0.next ≤ s.mem.next) :
    ∀ (Ds : List Nat) (w : World), Ds.Nodup → (∀ D ∈ Ds, w0.heap.size ≤ D ∧ ¬ I D ∧ w.heap[D]? = some (.deferred (some []))) → Rel C nt w0.heap.size ρ I s { tmps := T, defers := [] } w → Fr ρ0 I0 m0 w0 ρ I s.mem w →
      LeavesInM Fence.wide 0 C.P fn T (CallPost C ρ0 I0 m0 w0 (packA xs) s.mem) (Ds.map mark) .returning w := by
  intro Ds
  induction Ds with
  | nil =>
    intro w _ _ hR hf
    obtain ⟨u, r1, r2⟩ := results_sound hR hx
    exact ⟨u, r1, u, ρ, I, rfl, hR.mem, r2, hf, hR.fresh, q3, q4⟩
  | cons D Ds ih =>
    intro w hnd hDs hR hf
    obtain ⟨d1, d2, d3⟩ := hDs D (by simp)
    have hnd' := List.nodup_cons.1 hnd
    have no : ∀ cur e fr, Obj.deferred (some []) ≠ .cells cur e fr := fun _ _ _ e => by cases e
    have hE := put_ext' (ρ := ρ) (.deferred none) d3 no d2
    refine ⟨by simp, .inl ⟨D, w.putObj D (.deferred none), rfl, run_takeDeferred d3, ?_⟩⟩
    refine ih _ hnd'.2 (fun D' hD' => ?_) ⟨put_mem' _ hR.mem d3 no d2, fun t => (hR.env t).ext hE, hR.size, ⟨by rw [World.putObj_size]; exact hR.defers.low, [], rfl, List.nodup_nil, by simp⟩, hR.globals, hR.glob.ext (fun _ h => h) hE.keep, hR.fresh⟩
      ⟨hf.ext.trans hE, by rw [World.putObj_size]; exact hf.size, fun b hb hn => (World.putObj_heap_other (fun e => by omega)).trans (hf.same b hb hn), hf.owns, hf.news, hf.os, hf.tape, hf.output⟩
    obtain ⟨e1, e2, e3⟩ := hDs D' (by simp [hD'])
    exact ⟨e1, e2, (World.putObj_heap_other (show D' ≠ D from fun e => by subst e; exact hnd'.1 hD')).trans e3⟩

theorem body_sound {call : CallF} (hcall : CallSound C call) {n : Nat} {f : FuncId} {args : List AVal} {m m' : Mem} {r : AVal} (h : aBody C call n f args m = some (r, m')) :
    (C.P.funcs[f]?).bind (·.body) ≠ none ∧ (∀ fn, C.P.funcs[f]? = some fn → (fn.name == "runtime.NumGoroutine") = false) ∧
    ∀ (ρ : Ren) (I : Nat → Prop) (w : World) (vs : Array Value), MemR ρ I w m → (∀ g, g < C.ng → ρ g = some (g, 0)) → GlobOK C I w → (∀ id, m.next ≤ id → ρ id = none) →
      VRs ρ I w args vs.toList → Calls C.P f vs w (CallPost C ρ I m w r m') := by
  unfold aBody at h
  split at h
  · cases h
  · rename_i fn hfn
    split at h
    · cases h
    · rename_i code hcode
      split at h
      · rename_i hc
        obtain ⟨hok, hlen, hname⟩ := hc
        refine ⟨by simp [hfn, hcode], fun fn' hfn' => by rw [hfn] at hfn'; cases hfn'; exact hname, ?_⟩
        intro ρ I w vs hm hg hgl hfr hv
        have hvl : args.length = vs.size := by simpa using hv.1
        refine callsIn_wide.1 (callsIn_of_wp_marks (n := 0) hfn hcode trivial ?_)
        have hR : Rel C fn.ntmps w.heap.size ρ I ⟨fun i => (args[i]?).getD (.tup []), m⟩ { tmps := vs ++ Array.replicate (fn.ntmps - vs.size) undef, defers := [] } w := by
          refine ⟨hm, fun t => ?_, by simp; omega, ⟨Nat.le_refl _, [], rfl, List.nodup_nil, by simp⟩, hg, hgl, hfr⟩
          simp only [Array.getD_eq_getD_getElem?, Array.getElem?_append]
          by_cases ht : t < vs.size
          · rw [if_pos ht]
            have e1 : args[t]? = some (args[t]'(by omega)) := List.getElem?_eq_getElem _
            have e2 : vs[t]? = some vs[t] := Array.getElem?_eq_getElem ht
            rw [e1, e2]
            exact hv.2 t _ _ e1 (by simp [ht])
          · rw [if_neg ht]
            have e1 : args[t]? = none := List.getElem?_eq_none (by omega)
            rw [e1]
            have : ((Array.replicate (fn.ntmps - vs.size) undef)[t - vs.size]?).getD undef = undef := by
              simp only [Array.getElem?_replicate]
              split <;> rfl
            rw [this]
            exact VR.tup_mk (VRs.nil _ _ _)
        have fin : ∀ (e : AExit) (s : St), (e = .normal ∨ e = .ret) → aCode C call n code ⟨fun i => (args[i]?).getD (.tup []), m⟩ = some (e, s) →
            (resultsA C s fn.results.toList).map (fun vs => (packA vs, s.mem)) = some (r, m') →
            code.wpIn Fence.wide 0 C.P (bodyPostM Fence.wide 0 C.P fn (CallPost C ρ I m w r m')) { tmps := vs ++ Array.replicate (fn.ntmps - vs.size) undef, defers := [] } w := by
          intro e s he hrun hres
          cases hx : resultsA C s fn.results.toList with
          | none => simp [hx] at hres
          | some xs =>
            simp only [hx, Option.map_some, Option.some.injEq, Prod.mk.injEq] at hres
            obtain ⟨rfl, rfl⟩ := hres
            refine code_sound hcall code Fence.wide 0 (.inl rfl) (.inl rfl) ρ I _ s _ w e _ hok hR hrun fun a' w' hp => ?_
            obtain ⟨ρ', I', q1, q2, q3, q4⟩ := hp
            obtain ⟨_, Ds, d1, d2, d3⟩ := q1.defers
            have hl : LeavesInM Fence.wide 0 C.P fn a'.tmps (CallPost C ρ I m w (packA xs) s.mem) a'.defers .returning w' := by
              rw [d1]
              exact leaves_sound hx q3 q4 Ds w' d2 d3 ⟨q1.mem, q1.env, q1.size, ⟨q1.defers.low, [], rfl, List.nodup_nil, by simp⟩, q1.globals, q1.glob, q1.fresh⟩ q2
            rcases he with rfl | rfl
            · exact hl
            · exact hl
        split at h
        · rename_i s hrun
          exact fin .normal s (.inl rfl) hrun h
        · rename_i s hrun
          exact fin .ret s (.inr rfl) hrun h
        · cases h
      · cases h

theorem calls_nil (C : Cfg) : CallSound C (fun _ _ _ => none) := fun f args m r m' h => by cases h

/-- The renaming of the globals alone. -/
def ren0 (C : Cfg) : Ren := fun id => if id < C.ng then some (id, 0) else none

theorem m0_mem (hgl : GlobOK C I w) (hi : ∀ b, I b → b < w.heap.size) : MemR (ren0 C) I w C.m0 := by
  have ro : ∀ id, C.m0.mode id ≠ .dead → id < C.ng ∧ C.glob id ≠ [] := fun id h => by
    simp only [Cfg.m0] at h
    by_cases hc : id < C.ng ∧ C.glob id ≠ []
    · exact hc
    · rw [if_neg hc] at h; exact absurd rfl h
  have nrw : ∀ id, C.m0.mode id ≠ .rw := fun id => by simp only [Cfg.m0]; split <;> simp
  refine ⟨fun id off a hl ha => ?_, fun id h => absurd h (nrw id), fun id h => ?_, fun id _ _ _ _ h => absurd h (nrw id), hi⟩
  · obtain ⟨h1, h2⟩ := ro id hl
    obtain ⟨hI, cur, e, fr, g1, g2, g3⟩ := hgl id h1 h2
    have ha' : (C.glob id)[off]? = some a := by simpa [Cfg.m0, h1] using ha
    obtain ⟨v, k1, k2, k3⟩ := g3 off a ha'
    exact ⟨id, 0, v, by simp [ren0, h1], by rw [cell_row g1]; simpa using k1, k2, .vi _ _ k3⟩
  · obtain ⟨h1, h2⟩ := ro id (by rw [h]; simp)
    obtain ⟨hI, cur, e, fr, g1, g2, g3⟩ := hgl id h1 h2
    exact ⟨id, 0, cur, e, fr, by simp [ren0, h1], hI, g1, by simpa [Cfg.m0] using g2⟩

/-- What a call over immutable arguments comes to. -/
def PurePost (I : Nat → Prop) (w : World) (r : AVal) (e : Ending) (w' : World) : Prop :=
  ∃ (v : Value) (I' : Nat → Prop), e = .returned v ∧ VI I' w' r v ∧ (∀ b, I b → I' b) ∧ (∀ b, b < w.heap.size → I' b → I b) ∧ (∀ b, I' b → b < w'.heap.size) ∧
    w.heap.size ≤ w'.heap.size ∧ (∀ b, b < w.heap.size → w'.heap[b]? = w.heap[b]?) ∧ w'.os = w.os ∧ w'.tape = w.tape ∧ w'.output = w.output

/-- The contracts that are proved elsewhere. -/
def ExtOK (C : Cfg) : Prop :=
  ∀ (f : FuncId) (g : List AVal → Option AVal), C.kind f = .ext g → (C.P.funcs[f]?).bind (·.body) ≠ none ∧ (∀ fn, C.P.funcs[f]? = some fn → (fn.name == "runtime.NumGoroutine") = false) ∧
    ∀ (args : List AVal) (r : AVal), g args = some r → ∀ (I : Nat → Prop) (w : World) (vs : Array Value), GlobOK C I w → (∀ b, I b → b < w.heap.size) → VIs I w args vs.toList →
      Calls C.P f vs w (PurePost I w r)

/-- A call over immutable arguments, in the caller's state. -/
theorem PurePost.lift {m m1 : Mem} {I I1 : Nat → Prop} {r : AVal} {e : Ending} {w' : World} (hf : FZ ρ I m w I1 m1) (hgl : GlobOK C I1 w) (hfr : ∀ id, m.next ≤ id → ρ id = none)
    (h : PurePost I1 w r e w') : CallPost C ρ I m w r m1 e w' := by
  obtain ⟨v, I', rfl, k1, k2, k3, k4, k5, k6, k7, k8, k9⟩ := h
  have hE : Ext ρ I1 w ρ I' w' := ⟨fun _ _ h => h, k2, fun b hb => k6 b (hf.mem.imm b hb), fun b cur t fr hb => ⟨cur, fr, (k6 b (heap_lt hb)).trans hb, rfl⟩⟩
  have own_lt : ∀ b, Owned ρ m1 b → b < w.heap.size ∧ ¬ I1 b := fun b ⟨id, base, q1, q2⟩ => by
    obtain ⟨b', base', cur, t, p1, p2, p3, _⟩ := hf.mem.rw id q1
    rw [q2] at p1
    cases p1
    exact ⟨heap_lt p3, p2⟩
  refine ⟨v, ρ, I', rfl, hf.mem.ext hE (fun b hb => k6 b (own_lt b hb).1) k4 (fun b hb hi => (own_lt b hb).2 (k3 b (own_lt b hb).1 hi)), .vi _ _ k1, ?_, fun id hid => hfr id (by rw [← hf.next]; exact hid), fun _ _ => rfl, by rw [hf.next]; exact Nat.le_refl _⟩
  exact ⟨hf.ext.trans hE, k5, fun b hb _ => k6 b hb, fun b hb ⟨id, base, q1, q2⟩ => ⟨id, base, hf.rw id q1, q2⟩, fun b hb hi => hf.news b (k3 b hb hi), k7, k8, k9⟩

theorem pure_sound {call : CallF} (hcall : CallSound C call) {n : Nat} {f : FuncId} {args : List AVal} {m2 m3 : Mem} {r r' : AVal}
    (h : aBody C call n f args C.m0 = some (r, m2)) (hz : freezeV 8 r m2 = some (r', m3)) {I : Nat → Prop} {w : World} {vs : Array Value} (hgl : GlobOK C I w) (hi : ∀ b, I b → b < w.heap.size)
    (hv : VIs I w args vs.toList) : Calls C.P f vs w (PurePost I w r') := by
  obtain ⟨_, _, hs⟩ := body_sound hcall h
  refine (hs (ren0 C) I w vs (m0_mem hgl hi) (fun g hg => by simp [ren0, hg]) hgl (fun id hid => by simp only [Cfg.m0] at hid; simp [ren0]; omega) hv.vrs).mono fun e w' hp => ?_
  obtain ⟨v, ρ', I', rfl, k1, k2, k3, k4, k5, k6⟩ := hp
  obtain ⟨I2, f2, g2⟩ := freezeV_sound 8 r r' m2 m3 I' v k1 k2 hz
  have noown : ∀ b, ¬ Owned (ren0 C) C.m0 b := fun b ⟨id, base, q1, _⟩ => by simp only [Cfg.m0] at q1; split at q1 <;> cases q1
  refine ⟨v, I2, rfl, g2, fun b hb => f2.sub b (k3.ext.sub b hb), fun b hb hi2 => ?_, f2.mem.imm, k3.size, fun b hb => k3.same b hb (noown b), k3.os, k3.tape, k3.output⟩
  rcases f2.news b hi2 with h1 | h1
  · rcases k3.news b hb h1 with h2 | h2
    · exact h2
    · exact absurd h2 (noown b)
  · exact absurd (k3.owns b hb h1) (noown b)

theorem restrict_mem {m : Mem} (h : MemR ρ I w m) (S : List Nat) : MemR ρ I w (restrict m C.ng S) := by
  have hm : ∀ id, (restrict m C.ng S).mode id ≠ .dead → shown C.ng S id = true := fun id hl => by
    simp only [restrict] at hl
    cases hs : shown C.ng S id with
    | true => rfl
    | false => simp [hs] at hl
  have e1 : ∀ id, shown C.ng S id = true → (restrict m C.ng S).mode id = m.mode id := fun id hs => by simp [restrict, hs]
  have e2 : ∀ id, shown C.ng S id = true → (restrict m C.ng S).siz id = m.siz id := fun id hs => by simp [restrict, hs]
  refine ⟨fun id off a hl ha => ?_, fun id hi => ?_, fun id hi => ?_, fun id id' b b1 b2 q1 q2 => ?_, h.imm⟩
  · have hs := hm id hl
    exact h.cells id off a (by rw [← e1 id hs]; exact hl) (by simpa [restrict, hs] using ha)
  · have hs := hm id (by rw [hi]; simp)
    rw [e2 id hs]
    exact h.rw id (by rw [← e1 id hs]; exact hi)
  · have hs := hm id (by rw [hi]; simp)
    rw [e2 id hs]
    exact h.ro id (by rw [← e1 id hs]; exact hi)
  · exact h.inj id id' b b1 b2 (by rw [← e1 id (hm id (by rw [q1]; simp))]; exact q1) (by rw [← e1 id' (hm id' (by rw [q2]; simp))]; exact q2)

theorem shallow_lift {m m' : Mem} {S : List Nat} {r : AVal} {e : Ending} {w' : World} (hm : MemR ρ I w m) (hfr : ∀ id, m.next ≤ id → ρ id = none)
    (h : CallPost C ρ I (restrict m C.ng S) w r m' e w') : CallPost C ρ I m w r (unrestrict m C.ng S m') e w' := by
  obtain ⟨v, ρ', I', rfl, k1, k2, k3, k4, k5, k6⟩ := h
  have low : ∀ id, id < m.next → ρ' id = ρ id := k5
  have hidden : ∀ id, (id < m.next ∧ shown C.ng S id = false) → (unrestrict m C.ng S m').mode id = m.mode id ∧ (restrict m C.ng S).mode id = .dead := fun id hc =>
    ⟨by simp only [unrestrict]; rw [if_pos hc], by simp [restrict, hc.2]⟩
  have shownM : ∀ id, ¬ (id < m.next ∧ shown C.ng S id = false) → (unrestrict m C.ng S m').mode id = m'.mode id := fun id hc => by simp only [unrestrict]; rw [if_neg hc]
  have vis : ∀ id, (restrict m C.ng S).mode id = .rw → m.mode id = .rw ∧ shown C.ng S id = true := fun id hi => by
    simp only [restrict] at hi
    split at hi
    · rename_i hc; exact ⟨hi, hc⟩
    · cases hi
  -- a block that a hidden owner holds is no shown owner's
  have apart : ∀ id b base, (id < m.next ∧ shown C.ng S id = false) → m.mode id = .rw → ρ id = some (b, base) → ¬ Owned ρ (restrict m C.ng S) b := by
    intro id b base hc hrw hr ⟨i, bs, q1, q2⟩
    obtain ⟨g1, g2⟩ := vis i q1
    have := hm.inj id i b base bs hrw g1 hr q2
    subst this
    rw [hc.2] at g2
    cases g2
  have keep : ∀ id b base, (id < m.next ∧ shown C.ng S id = false) → m.mode id ≠ .dead → ρ id = some (b, base) → w'.heap[b]? = w.heap[b]? := by
    intro id b base hc hl hr
    obtain ⟨b', base', cur, t, fr, g1, g2, _⟩ := hm.live hl
    rw [hr] at g1
    cases g1
    cases hmd : m.mode id with
    | dead => exact absurd hmd hl
    | rw => exact k3.same b (heap_lt g2) (apart id b base hc hmd hr)
    | ro =>
      obtain ⟨b2, base2, _, _, _, p1, p2, _⟩ := hm.ro id hmd
      rw [hr] at p1
      cases p1
      exact k3.ext.keep b p2
  have rho' : ∀ id, id < m.next → ∀ x, ρ' id = some x → ρ id = some x := fun id hid x hx => by rw [← low id hid]; exact hx
  refine ⟨v, ρ', I', rfl, ⟨?_, ?_, ?_, ?_, k1.imm⟩, k2, ⟨k3.ext, k3.size, ?_, ?_, ?_, k3.os, k3.tape, k3.output⟩, k4, k5, k6⟩
  · intro id off a hl ha
    by_cases hc : id < m.next ∧ shown C.ng S id = false
    · rw [(hidden id hc).1] at hl
      have ha' : m.cell id off = some a := by simpa only [unrestrict, if_pos hc] using ha
      obtain ⟨b, base, u, g1, g2, g3, g4⟩ := hm.cells id off a hl ha'
      exact ⟨b, base, u, k3.ext.rho _ _ g1, (World.cell?_of_block (a := ⟨b, base + off, none⟩) (keep id b base hc hl g1)).trans g2, g3, g4.ext k3.ext⟩
    · rw [shownM id hc] at hl
      exact k1.cells id off a hl (by simpa only [unrestrict, if_neg hc] using ha)
  · intro id hi
    by_cases hc : id < m.next ∧ shown C.ng S id = false
    · rw [(hidden id hc).1] at hi
      obtain ⟨b, base, cur, t, g1, g2, g3, g4⟩ := hm.rw id hi
      refine ⟨b, base, cur, t, k3.ext.rho _ _ g1, fun hI => ?_, (keep id b base hc (by simp [hi]) g1).trans g3, by simpa only [unrestrict, if_pos hc] using g4⟩
      rcases k3.news b (heap_lt g3) hI with h1 | h1
      · exact g2 h1
      · exact apart id b base hc hi g1 h1
    · rw [shownM id hc] at hi
      obtain ⟨b, base, cur, t, g1, g2, g3, g4⟩ := k1.rw id hi
      exact ⟨b, base, cur, t, g1, g2, g3, by simpa only [unrestrict, if_neg hc] using g4⟩
  · intro id hi
    by_cases hc : id < m.next ∧ shown C.ng S id = false
    · rw [(hidden id hc).1] at hi
      obtain ⟨b, base, cur, t, fr, g1, g2, g3, g4⟩ := hm.ro id hi
      exact ⟨b, base, cur, t, fr, k3.ext.rho _ _ g1, k3.ext.sub b g2, (keep id b base hc (by simp [hi]) g1).trans g3, by simpa only [unrestrict, if_pos hc] using g4⟩
    · rw [shownM id hc] at hi
      obtain ⟨b, base, cur, t, fr, g1, g2, g3, g4⟩ := k1.ro id hi
      exact ⟨b, base, cur, t, fr, g1, g2, g3, by simpa only [unrestrict, if_neg hc] using g4⟩
  · intro id id' b b1 b2 q1 q2 r1 r2
    have cross : ∀ i j bi bj, (i < m.next ∧ shown C.ng S i = false) → ¬ (j < m.next ∧ shown C.ng S j = false) → (unrestrict m C.ng S m').mode i = .rw → (unrestrict m C.ng S m').mode j = .rw →
        ρ' i = some (b, bi) → ρ' j = some (b, bj) → False := by
      intro i j bi bj hi hj p1 p2 t1 t2
      rw [(hidden i hi).1] at p1
      rw [shownM j hj] at p2
      have ti := rho' i hi.1 _ t1
      obtain ⟨b', base', cur, t, g1, g2, g3, _⟩ := hm.rw i p1
      rw [ti] at g1
      cases g1
      exact apart i b bi hi p1 ti (k3.owns b (heap_lt g3) ⟨j, bj, p2, t2⟩)
    by_cases hc : id < m.next ∧ shown C.ng S id = false
    · by_cases hc' : id' < m.next ∧ shown C.ng S id' = false
      · rw [(hidden id hc).1] at q1
        rw [(hidden id' hc').1] at q2
        exact hm.inj id id' b b1 b2 q1 q2 (rho' id hc.1 _ r1) (rho' id' hc'.1 _ r2)
      · exact (cross id id' b1 b2 hc hc' q1 q2 r1 r2).elim
    · by_cases hc' : id' < m.next ∧ shown C.ng S id' = false
      · exact (cross id' id b2 b1 hc' hc q2 q1 r2 r1).elim
      · rw [shownM id hc] at q1
        rw [shownM id' hc'] at q2
        exact k1.inj id id' b b1 b2 q1 q2 r1 r2
  · intro b hb hn
    exact k3.same b hb fun ⟨i, bs, q1, q2⟩ => hn ⟨i, bs, (vis i q1).1, q2⟩
  · intro b hb ⟨i, bs, q1, q2⟩
    by_cases hc : i < m.next ∧ shown C.ng S i = false
    · rw [(hidden i hc).1] at q1
      exact ⟨i, bs, q1, rho' i hc.1 _ q2⟩
    · rw [shownM i hc] at q1
      obtain ⟨j, bj, p1, p2⟩ := k3.owns b hb ⟨i, bs, q1, q2⟩
      exact ⟨j, bj, (vis j p1).1, p2⟩
  · intro b hb hi
    rcases k3.news b hb hi with h1 | ⟨j, bj, p1, p2⟩
    · exact .inl h1
    · exact .inr ⟨j, bj, (vis j p1).1, p2⟩

theorem still_vi {a : AVal} {v : Value} (h : VR ρ I w a v) (hs : stillB a = true) : VI I w a v := by
  cases h with
  | vi _ _ h => exact h
  | _ => simp [stillB] at hs

theorem cellsAt_get {m : Mem} {id : Nat} : ∀ {n off : Nat} {cs : List AVal}, cellsAt m id off n = some cs → ∀ (j : Nat) (c : AVal), cs[j]? = some c → m.cell id (off + j) = some c
  | 0, off, cs, h, j, c, hj => by cases h; simp at hj
  | n + 1, off, cs, h, j, c, hj => by
    simp only [cellsAt] at h
    split at h
    · rename_i a r h1 h2
      cases h
      cases j with
      | zero => simp at hj; subst hj; simpa using h1
      | succ j =>
        have := cellsAt_get h2 j c (by simpa using hj)
        rw [show off + 1 + j = off + (j + 1) by omega] at this
        exact this
    · cases h

/-- A value that is shown, where all old blocks count as immutable. -/
theorem view_sound {m : Mem} (hm : MemR ρ I w m) {a a' : AVal} {v : Value} (h : VR ρ I w a v) (hv : viewV m a = some a') : VI (fun b => b < w.heap.size) w a' v := by
  have up : ∀ {x : AVal} {u : Value}, VI I w x u → VI (fun b => b < w.heap.size) w x u := fun hx => hx.ext (fun b hb => hm.imm b hb) (fun _ _ => rfl)
  have plain : (if stillB a then some a else none) = some a' → VI (fun b => b < w.heap.size) w a' v := fun e => by
    split at e
    · rename_i hs
      cases e
      exact up (still_vi h hs)
    · cases e
  cases a with
  | ptr id off =>
    simp only [viewV] at hv
    split at hv
    · cases hv
    · rename_i hl
      split at hv
      · rename_i cs hcs
        split at hv
        · rename_i hall
          cases hv
          obtain ⟨b, base, hr, rfl⟩ := h.ptr_inv
          have key : ∀ (j : Nat) (c : AVal), cs[j]? = some c → ∃ u, w.cell? ⟨b, base + off + j, none⟩ = some u ∧ u.oneCell' = true ∧ VI (fun b => b < w.heap.size) w c u := fun j c hj => by
            obtain ⟨b', base', u, k1, k2, k3, k4⟩ := hm.cells id (off + j) c hl (cellsAt_get hcs j c hj)
            rw [hr] at k1
            cases k1
            have hs : stillB c = true := List.all_eq_true.1 hall c (List.mem_of_getElem? hj)
            exact ⟨u, by rw [Nat.add_assoc]; exact k2, k3, up (still_vi k4 hs)⟩
          have hb : b < w.heap.size := by
            cases hmd : m.mode id with
            | dead => exact absurd hmd hl
            | rw =>
              obtain ⟨b', base', cur, e, q1, _, q3, _⟩ := hm.rw id hmd
              rw [hr] at q1
              cases q1
              exact heap_lt' q3
            | ro =>
              obtain ⟨b', base', cur, e, fr, q1, _, q3, _⟩ := hm.ro id hmd
              rw [hr] at q1
              cases q1
              exact heap_lt' q3
          exact .iptr b (base + off) cs (fun j => (w.cell? ⟨b, base + off + j, none⟩).getD .nilFunc) hb (fun j c hj => by
            obtain ⟨u, k1, k2, _⟩ := key j c hj
            rw [k1]
            exact ⟨rfl, k2⟩) (fun j c hj => by
            obtain ⟨u, k1, _, k3⟩ := key j c hj
            rw [k1]
            exact k3)
        · cases hv
      · cases hv
  | _ => exact plain hv

theorem viewL_sound {m : Mem} (hm : MemR ρ I w m) : ∀ {xs ys : List AVal} {vs : List Value}, VRs ρ I w xs vs → viewL m xs = some ys → VIs (fun b => b < w.heap.size) w ys vs
  | [], ys, vs, h, hv => by
    cases hv
    exact ⟨h.1, fun j a v ha => by simp at ha⟩
  | x :: xs, ys, vs, h, hv => by
    simp only [viewL] at hv
    split at hv
    · rename_i y r h1 h2
      cases hv
      cases vs with
      | nil => simp [VRs] at h
      | cons v vs =>
        have hr : VRs ρ I w xs vs := ⟨by simpa using h.1, fun j a v ha hv => h.2 (j + 1) a v (by simpa using ha) (by simpa using hv)⟩
        have ih := viewL_sound hm hr h2
        refine ⟨by simpa using ih.1, fun j a u ha hu => ?_⟩
        cases j with
        | zero => simp at ha hu; subst ha; subst hu; exact view_sound hm (h.2 0 x v rfl rfl) h1
        | succ j => exact ih.2 j a u (by simpa using ha) (by simpa using hu)
    · cases hv

theorem res_vi {J : Nat → Prop} {w' : World} {r : AVal} {v : Value} (h : VI J w' r v) (hr : resB r = true) : VI I w' r v := by
  cases h with
  | int k n => exact .int k n
  | bool b => exact .bool b
  | tup xs vs l1 h1 =>
    refine .tup xs vs l1 fun j a u ha hu => ?_
    have hb := List.all_eq_true.1 hr a (List.mem_of_getElem? ha)
    have := h1 j a u ha hu
    cases this with
    | int k n => exact .int k n
    | bool b => exact .bool b
    | _ => simp at hb
  | _ => simp [resB] at hr

/-- WHAT THE ABSTRACT MACHINE RETURNS IS WHAT THE MODEL's MACHINE RETURNS. -/
theorem aCall_sound (hX : ExtOK C) : ∀ k, CallSound C (aCall C k) := by
  intro k
  induction k with
  | zero => intro f args m r m' h; simp [aCall] at h
  | succ k ih =>
    intro f args m r m' h
    simp only [aCall] at h
    split at h
    · exact body_sound ih h
    · split at h
      · rename_i args' m1 hfz
        split at h
        · rename_i r2 m2 hb
          split at h
          · rename_i r' m3 hz
            cases h
            obtain ⟨b1, b2, _⟩ := body_sound ih hb
            refine ⟨b1, b2, fun ρ I w vs hm hg hgl hfr hv => ?_⟩
            obtain ⟨I1, f1, g1⟩ := freezeL_sound (freezeV_sound 8) args args' m m' I vs.toList hm hv hfz
            have hgl1 : GlobOK C I1 w := hgl.ext f1.sub (fun _ _ => rfl)
            exact (pure_sound ih hb hz hgl1 f1.mem.imm g1).mono fun e w' hp => hp.lift f1 hgl1 hfr
          · cases h
        · cases h
      · cases h
    · split at h
      · rename_i r2 m2 hb
        cases h
        obtain ⟨b1, b2, hs⟩ := body_sound ih hb
        refine ⟨b1, b2, fun ρ I w vs hm hg hgl hfr hv => ?_⟩
        exact (hs ρ I w vs (restrict_mem hm _) hg hgl hfr hv).mono fun e w' hp => shallow_lift hm hfr hp
      · cases h
    · split at h
      · rename_i args' hvw
        split at h
        · rename_i r2 m2 hb
          split at h
          · rename_i r' m3 hz
            split at h
            · rename_i hres
              cases h
              obtain ⟨b1, b2, _⟩ := body_sound ih hb
              refine ⟨b1, b2, fun ρ I w vs hm hg hgl hfr hv => ?_⟩
              have g1 := viewL_sound hm hv hvw
              have hgl1 : GlobOK C (fun b => b < w.heap.size) w := hgl.ext (fun b hb => hm.imm b hb) (fun _ _ => rfl)
              refine (pure_sound ih hb hz hgl1 (fun b hb => hb) g1).mono fun e w' hp => ?_
              refine PurePost.lift (FZ.refl hm) hgl hfr ?_
              obtain ⟨v, I', rfl, k1, k2, k3, k4, k5, k6, k7⟩ := hp
              exact ⟨v, I, rfl, res_vi k1 hres, fun b hb => hb, fun b _ hb => hb, fun b hb => Nat.lt_of_lt_of_le (hm.imm b hb) k5, k5, k6, k7⟩
            · cases h
          · cases h
        · cases h
      · cases h
    · rename_i g hk
      split at h
      · rename_i args' m1 hfz
        split at h
        · rename_i r2 hr
          cases h
          obtain ⟨b1, b2, hs⟩ := hX f g hk
          refine ⟨b1, b2, fun ρ I w vs hm hg hgl hfr hv => ?_⟩
          obtain ⟨I1, f1, g1⟩ := freezeL_sound (freezeV_sound 8) args args' m m' I vs.toList hm hv hfz
          have hgl1 : GlobOK C I1 w := hgl.ext f1.sub (fun _ _ => rfl)
          exact (hs args' r hr I1 w vs hgl1 f1.mem.imm g1).mono fun e w' hp => hp.lift f1 hgl1 hfr
        · cases h
      · cases h
end
end Go.Ab
end
section
/- The abstract machine, eleventh part: equations by which it is run. -/
set_option linter.unusedVariables false
namespace Go.Ab

/-- The operation at hand. -/
noncomputable def aStepO (C : Cfg) (call : CallF) (ops : Array Oper) (new : Nat) (o : Oper) (s : St) : Option St :=
  match wantedA ops s.env o with
  | none => none
  | some false => some ⟨setOpt s.env o.dst (.tup []), s.mem⟩
  | some true => match callOf o with
    | some (f, args) => match opd C s.env f with
      | .fn g first captured => match call g (first ++ args.map (opd C s.env) ++ captured) s.mem with
        | some (v, m) => some ⟨setOpt s.env o.dst v, m⟩
        | none => none
      | _ => none
    | none => match aOp C o s.env s.mem new with
      | some (v, m) => some ⟨setOpt s.env o.dst v, m⟩
      | none => none

noncomputable def aRun (C : Cfg) (call : CallF) (ops : Array Oper) : Nat → List Oper → St → Option St
  | _, [], s => some s
  | new, o :: r, s => (aStepO C call ops new o s).bind (aRun C call ops (new + 1) r)

theorem aStep_eq {C : Cfg} {call : CallF} {ops : Array Oper} {base i : Nat} {s : St} {o : Oper} (h : ops[i]? = some o) : aStep C call ops base i s = aStepO C call ops (base + i) o s := by
  unfold aStep aStepO
  rw [h]
  rfl

theorem aOps_range {C : Cfg} {call : CallF} {ops : Array Oper} {base : Nat} : ∀ (r pre : List Oper) (s : St), ops.toList = pre ++ r →
    aOps C call ops base (List.range' pre.length r.length) s = aRun C call ops (base + pre.length) r s := by
  intro r
  induction r with
  | nil => intro pre s h; simp [aOps, aRun]
  | cons o r ih =>
    intro pre s h
    simp only [List.length_cons, List.range'_succ, aOps, aRun]
    have hi : ops[pre.length]? = some o := by rw [← Array.getElem?_toList, h]; simp
    rw [aStep_eq hi]
    congr 1
    funext s1
    have := ih (pre ++ [o]) s1 (by simp [h])
    simpa [Nat.add_assoc] using this

theorem aRegion_seq (C : Cfg) (call : CallF) (ops : Array Oper) (s : St) : aRegion C call ops false s = aRun C call ops s.mem.next ops.toList (reserve s ops.size) := by
  unfold aRegion
  rw [if_neg (by simp)]
  have := aOps_range (C := C) (call := call) (ops := ops) (base := s.mem.next) ops.toList [] (reserve s ops.size) rfl
  simpa [List.range_eq_range'] using this

theorem aRegion_draw {C : Cfg} {call : CallF} {ops : Array Oper} {s : St} (h : SameOrders C call ops s.mem.next (reserve s ops.size)) : aRegion C call ops true s = aRun C call ops s.mem.next ops.toList (reserve s ops.size) := by
  unfold aRegion
  rw [if_neg (fun e => e.2 h)]
  have := aOps_range (C := C) (call := call) (ops := ops) (base := s.mem.next) ops.toList [] (reserve s ops.size) rfl
  simpa [List.range_eq_range'] using this

end Go.Ab
end
