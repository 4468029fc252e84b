/- Part 4 of a proof in many texts, put together: definitions and lemmas. The theorem stands in the last text; no conditions. -/
import Derived.Test.YtmfdjipijifababPart3
section
/- The abstract machine, twelfth part: a region whose order is drawn comes to what the order of the text comes to, where no operation meets what another one writes. -/
set_option linter.unusedVariables false
set_option linter.unusedSimpArgs false
namespace Go.Ab

inductive Key where
  | tmp (t : Nat)
  | cell (id off : Nat)
  | mode (id : Nat)
  | siz (id : Nat)
  | next

def agree (s s' : St) : Key → Prop
  | .tmp t => s.env t = s'.env t
  | .cell id o => s.mem.cell id o = s'.mem.cell id o
  | .mode id => s.mem.mode id = s'.mem.mode id
  | .siz id => s.mem.siz id = s'.mem.siz id
  | .next => s.mem.next = s'.mem.next

theorem agree_symm {s s' : St} {k : Key} (h : agree s s' k) : agree s' s k := by cases k <;> exact Eq.symm h
theorem agree_trans {s s' s'' : St} {k : Key} (h : agree s s' k) (h' : agree s' s'' k) : agree s s'' k := by cases k <;> exact Eq.trans h h'

theorem St.ext' {s s' : St} (h : ∀ k, agree s s' k) : s = s' := by
  obtain ⟨e, ⟨c, md, sz, n⟩⟩ := s
  obtain ⟨e', ⟨c', md', sz', n'⟩⟩ := s'
  have h1 : e = e' := funext fun t => h (.tmp t)
  have h2 : c = c' := funext fun id => funext fun o => h (.cell id o)
  have h3 : md = md' := funext fun id => h (.mode id)
  have h4 : sz = sz' := funext fun id => h (.siz id)
  have h5 : n = n' := h .next
  subst h1; subst h2; subst h3; subst h4; subst h5
  rfl

open Classical in
/-- s, with what t has at the keys of W. -/
noncomputable def over (W : Key → Prop) (t s : St) : St where
  env := fun i => if W (.tmp i) then t.env i else s.env i
  mem := {
    cell := fun id o => if W (.cell id o) then t.mem.cell id o else s.mem.cell id o
    mode := fun id => if W (.mode id) then t.mem.mode id else s.mem.mode id
    siz := fun id => if W (.siz id) then t.mem.siz id else s.mem.siz id
    next := if W .next then t.mem.next else s.mem.next }

theorem over_in {W : Key → Prop} {t s : St} {k : Key} (h : W k) : agree (over W t s) t k := by
  cases k <;> simp [over, agree, h]
theorem over_out {W : Key → Prop} {t s : St} {k : Key} (h : ¬ W k) : agree (over W t s) s k := by
  cases k <;> simp [over, agree, h]

theorem over_comm {W V : Key → Prop} {t u s : St} (h : ∀ k, ¬ (W k ∧ V k)) : over W t (over V u s) = over V u (over W t s) := by
  refine St.ext' fun k => ?_
  by_cases hw : W k
  · have hv : ¬ V k := fun hv => h k ⟨hw, hv⟩
    exact agree_trans (over_in hw) (agree_symm (agree_trans (over_out hv) (over_in hw)))
  · by_cases hv : V k
    · exact agree_trans (over_out hw) (agree_trans (over_in hv) (agree_symm (over_in hv)))
    · exact agree_trans (over_out hw) (agree_trans (over_out hv) (agree_symm (agree_trans (over_out hv) (over_out hw))))

/-- What an operation reads and writes, as it ran from σ to τ: from wherever it reads the same, it writes the same. -/
structure Loc (step : St → Option St) (σ τ : St) (R W : Key → Prop) : Prop where
  loc : ∀ s, (∀ k, R k → agree s σ k) → step s = some (over W τ s)

/-- A run in pieces: each with its footprint. -/
structure Piece (step : Nat → St → Option St) (i : Nat) where
  σ : St
  τ : St
  R : Key → Prop
  W : Key → Prop
  loc : Loc (step i) σ τ R W

section
variable {step : Nat → St → Option St} (F : ∀ i, Piece step i)

def indep (a i : Nat) : Prop := (∀ k, ¬ ((F a).W k ∧ ((F i).R k ∨ (F i).W k))) ∧ (∀ k, ¬ ((F i).W k ∧ ((F a).R k ∨ (F a).W k)))

def agrees (i : Nat) (s : St) : Prop := ∀ k, (F i).R k → agree s (F i).σ k

def chain : List Nat → St → Prop
  | [], _ => True
  | i :: r, s => agrees F i s ∧ chain r (over (F i).W (F i).τ s)

noncomputable def final : List Nat → St → St
  | [], s => s
  | i :: r, s => final r (over (F i).W (F i).τ s)

theorem agrees_over {a i : Nat} (h : indep F a i) {s : St} : agrees F i (over (F a).W (F a).τ s) ↔ agrees F i s := by
  constructor
  · intro g k hk
    exact agree_trans (agree_symm (over_out (fun hw => h.1 k ⟨hw, .inl hk⟩))) (g k hk)
  · intro g k hk
    exact agree_trans (over_out (fun hw => h.1 k ⟨hw, .inl hk⟩)) (g k hk)

theorem chain_move {i : Nat} (B : List Nat) : ∀ (A : List Nat) (s : St), (∀ a ∈ A, indep F a i) → chain F (A ++ i :: B) s →
    agrees F i s ∧ chain F (A ++ B) (over (F i).W (F i).τ s) ∧ final F (A ++ i :: B) s = final F (A ++ B) (over (F i).W (F i).τ s) := by
  intro A
  induction A with
  | nil => intro s _ h; exact ⟨h.1, h.2, rfl⟩
  | cons a A ih =>
    intro s hA h
    obtain ⟨h1, h2⟩ := h
    obtain ⟨g1, g2, g3⟩ := ih _ (fun x hx => hA x (by simp [hx])) h2
    have hai := hA a (by simp)
    have hc : over (F i).W (F i).τ (over (F a).W (F a).τ s) = over (F a).W (F a).τ (over (F i).W (F i).τ s) := over_comm fun k ⟨p, q⟩ => hai.1 k ⟨q, .inr p⟩
    refine ⟨(agrees_over F hai).1 g1, ⟨?_, ?_⟩, ?_⟩
    · intro k hk
      exact agree_trans (over_out (fun hw => hai.2 k ⟨hw, .inl hk⟩)) (h1 k hk)
    · rw [← hc]; exact g2
    · show final F (A ++ i :: B) (over (F a).W (F a).τ s) = final F (A ++ B) (over (F a).W (F a).τ (over (F i).W (F i).τ s))
      rw [← hc]; exact g3

def runs (step : Nat → St → Option St) : List Nat → St → Option St
  | [], s => some s
  | i :: r, s => (step i s).bind (runs step r)

/-- Whatever order keeps what hangs together: the same end. -/
theorem chain_any : ∀ (π T : List Nat) (s : St), chain F T s → T.Nodup → π.Perm T →
    (∀ (A B : List Nat) (i : Nat) (π1 π2 : List Nat), π = π1 ++ i :: π2 → T = A ++ i :: B → ∀ a ∈ A, a ∈ π1 ∨ indep F a i) → runs step π s = some (final F T s) := by
  intro π
  induction π with
  | nil =>
    intro T s h hn hp _
    have : T = [] := by simpa using hp.symm
    subst this
    rfl
  | cons i π ih =>
    intro T s h hn hp hind
    have hi : i ∈ T := hp.subset (by simp)
    obtain ⟨A, B, rfl⟩ := List.append_of_mem hi
    obtain ⟨g1, g2, g3⟩ := chain_move F B A s (fun a ha => (hind A B i [] π rfl rfl a ha).resolve_left (by simp)) h
    simp only [runs]
    rw [(F i).loc.loc s g1, Option.bind_some, g3]
    have hp' : π.Perm (A ++ B) := by
      have : (i :: π).Perm (i :: (A ++ B)) := hp.trans List.perm_middle
      exact this.cons_inv
    have hn' : (A ++ B).Nodup := by
      have : (i :: (A ++ B)).Nodup := (List.perm_middle.nodup_iff).1 hn
      exact (List.nodup_cons.1 this).2
    have hni : i ∉ A ++ B := by
      have : (i :: (A ++ B)).Nodup := (List.perm_middle.nodup_iff).1 hn
      exact (List.nodup_cons.1 this).1
    refine ih (A ++ B) _ g2 hn' hp' fun A' B' j π1 π2 hπ hT a ha => ?_
    -- where j stands in the whole
    have key : ∃ A'' B'', A ++ i :: B = A'' ++ j :: B'' ∧ a ∈ A'' := by
      rcases List.append_eq_append_iff.1 hT with ⟨X, h1, h2⟩ | ⟨X, h1, h2⟩
      · -- A' = A ++ X, B = X ++ j :: B'
        subst h1
        refine ⟨A ++ i :: X, B', by rw [h2]; simp, ?_⟩
        rcases List.mem_append.1 ha with h | h
        · simp [h]
        · simp [h]
      · -- A = A' ++ X, j :: B' = X ++ B
        subst h1
        cases X with
        | nil =>
          simp only [List.nil_append] at h2
          refine ⟨A' ++ [i], B', by simp [h2], by simp [ha]⟩
        | cons x X =>
          simp only [List.cons_append, List.cons.injEq] at h2
          obtain ⟨rfl, rfl⟩ := h2
          exact ⟨A', X ++ i :: B, by simp, ha⟩
    obtain ⟨A'', B'', e1, e2⟩ := key
    have := hind A'' B'' j (i :: π1) π2 (by rw [hπ]; rfl) e1 a e2
    rcases this with h | h
    · rcases List.mem_cons.1 h with rfl | h
      · exfalso
        apply hni
        rw [hT]
        simp [ha]
      · exact .inl h
    · exact .inr h
end

theorem aOps_runs (C : Cfg) (call : CallF) (ops : Array Oper) (base : Nat) : ∀ (is : List Nat) (s : St), aOps C call ops base is s = runs (aStep C call ops base) is s := by
  intro is
  induction is with
  | nil => intro s; rfl
  | cons i is ih => intro s; simp only [aOps, runs]; congr 1; funext s1; exact ih s1

/-! Orders that the model draws. -/

/-- The operations that stand before one in every order. -/
def befores (ops : Array Oper) : List Nat := (Region.before ops).toList

/-- A good order: whole, and each behind what it hangs on. -/
structure Good (ops : Array Oper) (π : List Nat) : Prop where
  perm : π.Perm (List.range ops.size)
  deps : ∀ (π1 π2 : List Nat) (i : Nat) (o : Oper), π = π1 ++ i :: π2 → ops[i]? = some o → ∀ e ∈ o.after.toList, Region.binds .any e = true → e.on ∈ π1

theorem binds_any {md : Region.Mode} {e : Edge} (h : Region.binds .any e = true) : Region.binds md e = true := by
  cases md <;> (unfold Region.binds at *; split <;> simp_all)

theorem go_deps (md : Region.Mode) (ops : Array Oper) : ∀ (fuel t : Nat) (listed : Array Bool) (π1 π2 : List Nat) (i : Nat) (o : Oper), listed.size = ops.size →
    Region.linearise.go md ops fuel t listed [] = π1 ++ i :: π2 → ops[i]? = some o → ∀ e ∈ o.after.toList, Region.binds .any e = true → e.on < ops.size → listed.getD e.on false = true ∨ e.on ∈ π1 := by
  intro fuel
  induction fuel with
  | zero => intro t listed π1 π2 i o _ h; simp [Region.linearise.go] at h
  | succ fuel ih =>
    intro t listed π1 π2 i o hsz h ho e he hb hlt
    simp only [Region.linearise.go] at h
    split at h
    · rename_i j hj
      rw [linearise_go_acc] at h
      simp only [List.reverse_singleton, List.singleton_append] at h
      cases π1 with
      | nil =>
        simp only [List.nil_append, List.cons.injEq] at h
        obtain ⟨rfl, _⟩ := h
        have := (List.mem_filter.1 (List.mem_of_getElem? hj)).2
        simp only [ho, Option.map_some, Option.getD_some, Bool.and_eq_true] at this
        have hall := this.2
        rw [← Array.all_toList] at hall
        have := List.all_eq_true.1 hall e he
        simp only [binds_any hb, Bool.not_true, Bool.false_or] at this
        exact .inl this
      | cons x π1 =>
        simp only [List.cons_append, List.cons.injEq] at h
        obtain ⟨rfl, h⟩ := h
        rcases ih _ _ π1 π2 i o (by simp [hsz]) h ho e he hb hlt with g | g
        · by_cases hx : e.on = j
          · exact .inr (by simp [hx])
          · left
            simp only [Array.getD_eq_getD_getElem?] at g ⊢
            rwa [Array.getElem?_setIfInBounds_ne (fun e' => hx e'.symm)] at g
        · exact .inr (by simp [g])
    · simp at h

theorem go_all (md : Region.Mode) (ops : Array Oper) (σ : List Nat) (hσ : ∀ i, i < ops.size → i ∈ σ)
    (htop : ∀ (a b : List Nat) (i : Nat) (o : Oper), σ = a ++ i :: b → ops[i]? = some o → ∀ e ∈ o.after.toList, Region.binds md e = true → e.on ∈ a ∧ e.on < ops.size) :
    ∀ (fuel t : Nat) (listed : Array Bool), listed.size = ops.size → ((List.range ops.size).filter fun i => !listed.getD i true).length ≤ fuel →
      ∀ i, i < ops.size → listed.getD i true = false → i ∈ Region.linearise.go md ops fuel t listed [] := by
  intro fuel
  induction fuel with
  | zero =>
    intro t listed hsz hlen i hi hli
    have : i ∈ ((List.range ops.size).filter fun i => !listed.getD i true) := List.mem_filter.2 ⟨by simpa using hi, by simp [hli]⟩
    rw [List.eq_nil_of_length_eq_zero (Nat.le_zero.1 hlen)] at this
    cases this
  | succ fuel ih =>
    intro t listed hsz hlen i hi hli
    simp only [Region.linearise.go]
    -- some operation is ready
    have ready : ∃ j, j ∈ ((List.range ops.size).filter fun i => !listed.getD i true && ((ops[i]?).map (·.after.all fun e => !Region.binds md e || listed.getD e.on false)).getD false) := by
      -- the first of σ that is not listed
      have first : ∀ (a b : List Nat), σ = a ++ b → (∀ x ∈ a, x < ops.size → listed.getD x true = true) → (∃ x ∈ b, x < ops.size ∧ listed.getD x true = false) →
          ∃ j, j ∈ ((List.range ops.size).filter fun i => !listed.getD i true && ((ops[i]?).map (·.after.all fun e => !Region.binds md e || listed.getD e.on false)).getD false) := by
        intro a b
        induction b generalizing a with
        | nil => rintro _ _ ⟨x, hx, _⟩; cases hx
        | cons y b ihb =>
          intro hab hall hex
          by_cases hy : y < ops.size ∧ listed.getD y true = false
          · refine ⟨y, List.mem_filter.2 ⟨by simpa using hy.1, ?_⟩⟩
            have hoy : ops[y]? = some ops[y] := Array.getElem?_eq_getElem hy.1
            simp only [hy.2, hoy, Option.map_some, Option.getD_some, Bool.not_false, Bool.true_and]
            rw [← Array.all_toList]
            refine List.all_eq_true.2 fun e he => ?_
            by_cases hb : Region.binds md e = true
            · obtain ⟨h1, h2⟩ := htop a b y _ hab hoy e he hb
              have := hall e.on h1 h2
              have : listed.getD e.on false = true := by
                simp only [Array.getD_eq_getD_getElem?] at this ⊢
                rw [Array.getElem?_eq_getElem (by omega)] at this ⊢
                simpa using this
              simp [this]
            · simp [hb]
          · refine ihb (a ++ [y]) (by simp [hab]) ?_ ?_
            · intro x hx hxl
              rcases List.mem_append.1 hx with h | h
              · exact hall x h hxl
              · simp only [List.mem_singleton] at h
                subst h
                cases hq : listed.getD x true with
                | true => rfl
                | false => exact absurd ⟨hxl, hq⟩ hy
            · obtain ⟨x, hx, hx2⟩ := hex
              rcases List.mem_cons.1 hx with rfl | hx
              · exact absurd hx2 hy
              · exact ⟨x, hx, hx2⟩
      exact first [] σ rfl (fun x hx => by cases hx) ⟨i, hσ i hi, hi, hli⟩
    split
    · rename_i j hj
      rw [linearise_go_acc]
      simp only [List.reverse_singleton, List.singleton_append]
      have hjm := List.mem_filter.1 (List.mem_of_getElem? hj)
      have hjl : listed.getD j true = false := by
        have := hjm.2
        simp only [Bool.and_eq_true, Bool.not_eq_true'] at this
        exact this.1
      have hjs : j < ops.size := by simpa using hjm.1
      by_cases hij : i = j
      · simp [hij]
      · refine List.mem_cons_of_mem _ (ih _ _ (by simp [hsz]) ?_ i hi ?_)
        · have hsub : ((List.range ops.size).filter fun i => !(listed.setIfInBounds j true).getD i true).length < ((List.range ops.size).filter fun i => !listed.getD i true).length := by
            have e1 : ((List.range ops.size).filter fun i => !(listed.setIfInBounds j true).getD i true) = (((List.range ops.size).filter fun i => !listed.getD i true).filter fun i => i != j) := by
              rw [List.filter_filter]
              refine List.filter_congr fun x hx => ?_
              by_cases hxj : x = j
              · subst hxj
                have : x < listed.size := by omega
                simp [this]
              · simp only [Array.getD_eq_getD_getElem?]
                rw [Array.getElem?_setIfInBounds_ne (fun e => hxj e.symm)]
                simp [hxj]
            rw [e1]
            refine Nat.lt_of_le_of_ne (List.length_filter_le _ _) fun he => ?_
            have := (List.length_filter_eq_length_iff.1 he) j (List.mem_filter.2 ⟨by simpa using hjs, by simp [hjl]⟩)
            simp at this
          omega
        · simp only [Array.getD_eq_getD_getElem?] at hli ⊢
          rwa [Array.getElem?_setIfInBounds_ne (fun e => hij e.symm)]
    · rename_i hnone
      exfalso
      obtain ⟨j, hj⟩ := ready
      generalize hL : ((List.range ops.size).filter fun i => !listed.getD i true && ((ops[i]?).map (·.after.all fun e => !Region.binds md e || listed.getD e.on false)).getD false) = L at hnone hj
      have hpos : 0 < L.length := List.length_pos_of_mem hj
      have := Nat.mod_lt t hpos
      rw [List.getElem?_eq_none_iff] at hnone
      omega

/-- A list that the graph of a mode lets stand: a check by reckoning. -/
def topo (md : Region.Mode) (ops : Array Oper) : List Nat → List Nat → Bool
  | _, [] => true
  | a, i :: b => (match ops[i]? with
    | some o => o.after.toList.all fun e => !Region.binds md e || (a.contains e.on && decide (e.on < ops.size))
    | none => true) && topo md ops (a ++ [i]) b

theorem topo_spec {md : Region.Mode} {ops : Array Oper} : ∀ (b a : List Nat), topo md ops a b = true → ∀ (x y : List Nat) (i : Nat) (o : Oper), b = x ++ i :: y → ops[i]? = some o →
    ∀ e ∈ o.after.toList, Region.binds md e = true → e.on ∈ a ++ x ∧ e.on < ops.size := by
  intro b
  induction b with
  | nil => intro a _ x y i o h; simp at h
  | cons j b ih =>
    intro a h x y i o hb ho e he hbd
    simp only [topo, Bool.and_eq_true] at h
    cases x with
    | nil =>
      simp only [List.nil_append, List.cons.injEq] at hb
      obtain ⟨rfl, rfl⟩ := hb
      have h1 := h.1
      rw [ho] at h1
      have := List.all_eq_true.1 h1 e he
      simp only [hbd, Bool.not_true, Bool.false_or, Bool.and_eq_true, decide_eq_true_eq] at this
      exact ⟨by simpa using this.1, this.2⟩
    | cons x0 x =>
      simp only [List.cons_append, List.cons.injEq] at hb
      obtain ⟨rfl, rfl⟩ := hb
      have := ih (a ++ [j]) h.2 x y i o rfl ho e he hbd
      simpa using this

/-- The graph lets every schedule be whole: a check by reckoning. -/
def wholeOk (ops : Array Oper) : Bool :=
  topo .any ops [] (List.range ops.size) && (!Region.departs ops || (topo .text ops [] (List.range ops.size) &&
    ((List.range ops.size).all ((Region.linearise .gc ops 0).contains ·) && topo .gc ops [] (Region.linearise .gc ops 0))))

theorem go_good {md : Region.Mode} {ops : Array Oper} {σ : List Nat} (hσ : ∀ i, i < ops.size → i ∈ σ) (ht : topo md ops [] σ = true) (hany : topo .any ops [] (List.range ops.size) = true) (t : Nat) :
    Good ops (Region.linearise md ops t) := by
  unfold Region.linearise
  have hnd := (linearise_nodup md ops ops.size t (Array.replicate ops.size false)).1
  have hall : ∀ i, i < ops.size → i ∈ Region.linearise.go md ops ops.size t (Array.replicate ops.size false) [] := by
    intro i hi
    refine go_all md ops σ hσ (fun a b i o h ho e he hb => ?_) ops.size t _ (by simp) ?_ i hi ?_
    · have := topo_spec σ [] ht a b i o h ho e he hb
      simpa using this
    · exact Nat.le_trans (List.length_filter_le _ _) (by simp)
    · simp [hi]
  refine ⟨?_, ?_⟩
  · -- whole, without doubles, in range
    have hsub : ∀ i ∈ Region.linearise.go md ops ops.size t (Array.replicate ops.size false) [], i < ops.size := by
      intro i hi
      have := (linearise_nodup md ops ops.size t (Array.replicate ops.size false)).2 i hi
      rcases Nat.lt_or_ge i ops.size with h | h
      · exact h
      · simp [Array.getD_eq_getD_getElem?, Nat.not_lt.2 h] at this
    rw [List.perm_ext_iff_of_nodup hnd List.nodup_range]
    intro i
    exact ⟨fun h => by simpa using hsub i h, fun h => hall i (by simpa using h)⟩
  · intro π1 π2 i o h ho e he hb
    have hi : i < ops.size := (Array.getElem?_eq_some_iff.1 ho).1
    have hon : e.on < ops.size := by
      have := List.append_of_mem (List.mem_range.2 hi)
      obtain ⟨a, b, hab⟩ := this
      exact (topo_spec _ [] hany a b i o hab ho e he hb).2
    rcases go_deps md ops ops.size t _ π1 π2 i o (by simp) h ho e he hb hon with g | g
    · simp [hon] at g
    · exact g

theorem schedule_good {ops : Array Oper} (h : wholeOk ops = true) (mixed : Bool) (t : Nat) : Good ops (Region.schedule mixed ops t) := by
  unfold wholeOk at h
  simp only [Bool.and_eq_true, Bool.or_eq_true, Bool.not_eq_true'] at h
  obtain ⟨h1, h2⟩ := h
  have hr : ∀ i, i < ops.size → i ∈ List.range ops.size := fun i hi => by simpa using hi
  unfold Region.schedule
  split
  · exact go_good hr h1 h1 t
  · rename_i hc
    simp only [Bool.or_eq_true, not_or, Bool.not_eq_true, Bool.not_eq_false'] at hc
    have hd : Region.departs ops = true := by simpa using hc.2
    rcases h2 with h2 | h2
    · rw [hd] at h2; cases h2
    · obtain ⟨h3, h4, h5⟩ := h2
      split
      · exact go_good hr h3 h1 _
      · refine go_good (σ := Region.linearise .gc ops 0) (fun i hi => ?_) h5 h1 _
        have := List.all_eq_true.1 h4 i (by simpa using hi)
        simpa using this
end Go.Ab
end
section
/- The abstract machine, thirteenth part: what each operation reads and writes; regions whose order is drawn. -/
set_option linter.unusedVariables false
set_option linter.unusedSimpArgs false
namespace Go.Ab

/-- What a value leads to lies outside the abstract memory. -/
def inertB : Nat → AVal → Bool
  | 0, _ => false
  | d + 1, a => match a with
    | .own _ _ _ _ => false
    | .ptr _ _ => false
    | .agg cs => cs.all (inertB d)
    | .tup cs => cs.all (inertB d)
    | .fn _ a b => a.isEmpty && b.isEmpty
    | _ => true

theorem inert_list {d : Nat} (h : ∀ a, inertB d a = true → ∃ a', ∀ m, freezeV d a m = some (a', m)) : ∀ (xs : List AVal), xs.all (inertB d) = true → ∃ xs', ∀ m, freezeL (freezeV d) xs m = some (xs', m) := by
  intro xs
  induction xs with
  | nil => intro _; exact ⟨[], fun m => rfl⟩
  | cons x xs ih =>
    intro hx
    simp only [List.all_cons, Bool.and_eq_true] at hx
    obtain ⟨x', hx'⟩ := h x hx.1
    obtain ⟨xs', hxs'⟩ := ih hx.2
    exact ⟨x' :: xs', fun m => by simp only [freezeL, hx', hxs']⟩

theorem inert_spec : ∀ (d : Nat) (a : AVal), inertB d a = true → ∃ a', ∀ m, freezeV d a m = some (a', m) := by
  intro d
  induction d with
  | zero => intro a h; simp [inertB] at h
  | succ d ih =>
    intro a h
    cases a with
    | own => simp [inertB] at h
    | ptr => simp [inertB] at h
    | agg cs =>
      obtain ⟨xs', hx⟩ := inert_list ih cs (by simpa [inertB] using h)
      exact ⟨.agg xs', fun m => by simp only [freezeV, hx]⟩
    | tup cs =>
      obtain ⟨xs', hx⟩ := inert_list ih cs (by simpa [inertB] using h)
      exact ⟨.tup xs', fun m => by simp only [freezeV, hx]⟩
    | fn f a b => exact ⟨.fn f [] [], fun m => by simp only [freezeV]; rw [if_pos (by simpa [inertB] using h)]⟩
    | _ => exact ⟨_, fun m => rfl⟩

structure FP where
  R : Key → Prop
  W : Key → Prop

def FP.none : FP := ⟨fun _ => False, fun _ => False⟩
def memKey : Key → Prop
  | .tmp _ => False
  | _ => True
def FP.all : FP := ⟨memKey, memKey⟩

def loadN (P : Program) (t : TypeId) : Nat :=
  match isAggT P t, sizeT P t with
  | some true, some n => n
  | _, _ => 1

def rowKeys (id off n : Nat) : Key → Prop
  | .cell i o => i = id ∧ off ≤ o ∧ o < off + n
  | _ => False

def newKeys (id : Nat) : Key → Prop
  | .cell i _ => i = id
  | .mode i => i = id
  | .siz i => i = id
  | _ => False

def blkKeys (L : List Nat) : Key → Prop
  | .cell i _ => i ∈ L
  | .mode i => i ∈ L
  | .siz i => i ∈ L
  | _ => False

def shallowKeys (ng next : Nat) (S : List Nat) : Key → Prop
  | .cell i _ => shown ng S i = true ∨ next ≤ i
  | .mode i => shown ng S i = true ∨ next ≤ i
  | .siz i => shown ng S i = true ∨ next ≤ i
  | .next => True
  | _ => False

def callFP (C : Cfg) (g : FuncId) (args : List AVal) (next : Nat) : FP :=
  match C.kind g with
  | .pure => if args.all (inertB 8) then FP.none else FP.all
  | .ext _ => if args.all (inertB 8) then FP.none else FP.all
  | .shallow => ⟨shallowKeys C.ng next (args.flatMap idsOf), shallowKeys C.ng next (args.flatMap idsOf)⟩
  | .reader => ⟨blkKeys (args.flatMap idsOf), fun _ => False⟩
  | .plain => FP.all

def memFP (C : Cfg) (o : Oper) (s : St) (new : Nat) : FP :=
  match callOf o with
  | some (f, args) => match opd C s.env f with
    | .fn g first captured => callFP C g (first ++ args.map (opd C s.env) ++ captured) s.mem.next
    | _ => FP.all
  | none => match o.op with
    | .load t a => match opd C s.env a with
      | .ptr id off => ⟨fun q => q = .mode id ∨ rowKeys id off (loadN C.P t) q, fun _ => False⟩
      | _ => FP.none
    | .store t a _ => match opd C s.env a with
      | .ptr id off => ⟨fun q => q = .mode id ∨ rowKeys id off ((sizeT C.P t).getD 0) q, rowKeys id off ((sizeT C.P t).getD 0)⟩
      | _ => FP.none
    | .alloc _ => ⟨fun q => q = .mode new, newKeys new⟩
    | .box _ _ => ⟨fun q => q = .mode new, newKeys new⟩
    | .buildSlice _ _ _ => ⟨fun q => q = .mode new, newKeys new⟩
    | .makeSlice _ _ _ => ⟨fun q => q = .mode new, newKeys new⟩
    | .slice _ x _ _ _ => match opd C s.env x with
      | .ptr id _ => ⟨fun q => q = .mode id ∨ q = .siz id, fun _ => False⟩
      | _ => FP.none
    | .call c => match c.callee with
      | .builtin b => match b with
        | .append => ⟨blkKeys (new :: (c.args.toList.map (opd C s.env)).flatMap idsOf), blkKeys (new :: (c.args.toList.map (opd C s.env)).flatMap idsOf)⟩
        | _ => FP.none
      | _ => FP.none
    | _ => FP.none

section
variable {C : Cfg}

theorem opd_congr {env env' : Nat → AVal} {x : Operand} (h : ∀ t, x = .tmp t → env t = env' t) : opd C env x = opd C env' x := by
  cases x with
  | tmp t => exact h t rfl
  | _ => rfl

theorem genericA_congr {o : Oper} {env env' : Nat → AVal} (hs : ∀ cs b, o.op ≠ .select cs b) (h : ∀ x ∈ o.op.operands, opd C env x = opd C env' x) : genericA C o env = genericA C o env' := by
  unfold genericA
  have e1 : (o.op.operands.toList.all fun x => ((opd C env x).conc).isSome) = (o.op.operands.toList.all fun x => ((opd C env' x).conc).isSome) := by
    rw [Bool.eq_iff_iff]
    simp only [List.all_eq_true, Array.mem_toList_iff]
    exact ⟨fun g x hx => by rw [← h x hx]; exact g x hx, fun g x hx => by rw [h x hx]; exact g x hx⟩
  rw [e1, execOp_congr (ρ := fun x => ((opd C env x).conc).getD undef) (ρ' := fun x => ((opd C env' x).conc).getD undef) o hs (fun x hx => by simp only [h x hx])]

theorem aOp_congr {o : Oper} {env env' : Nat → AVal} {m : Mem} {new : Nat} (h : ∀ x ∈ o.op.operands, opd C env x = opd C env' x) : aOp C o env m new = aOp C o env' m new := by
  have gen : (∀ cs b, o.op ≠ .select cs b) → genericA C o env = genericA C o env' := fun hs => genericA_congr hs h
  have parts : ∀ ps : Array (Nat × Operand), (∀ x ∈ ps.toList.map (·.2), opd C env x = opd C env' x) → partsA C env ps.toList = partsA C env' ps.toList := by
    intro ps hp
    unfold partsA
    refine List.map_congr_left fun p hpm => ?_
    rw [hp p.2 (List.mem_map.2 ⟨p, hpm, rfl⟩)]
  unfold aOp
  cases ho : o.op <;> simp only [ho, Op.operands] at h
  case move x => simp only [h x (by simp)]
  case assign x => simp only [h x (by simp)]
  case pick c a b => simp only [h c (by simp), h a (by simp), h b (by simp)]
  case alloc t => rfl
  case box t x => simp only [h x (by simp)]
  case build t ps => simp only [parts ps (by simpa using h)]
  case buildSlice t n ps => simp only [parts ps (by simpa using h)]
  case load t a => simp only [h a (by simp)]
  case store t a x => simp only [h a (by simp), h x (by simp)]
  case nilCheck x => simp only [h x (by simp)]
  case makeFunc fn first captured =>
    cases fn <;> simp only []
    have e1 : first.toList.map (opd C env) = first.toList.map (opd C env') := List.map_congr_left fun x hx => h x (by simp at hx; simp [hx])
    have e2 : captured.toList.map (opd C env) = captured.toList.map (opd C env') := List.map_congr_left fun x hx => h x (by simp at hx; simp [hx])
    rw [e1, e2]
  case makeSlice t l c => simp only [h l (by simp), h c (by simp)]
  case slice t x lo hi mx =>
    have e0 := h x (by simp)
    have opt : ∀ (y : Option Operand), (∀ z, y = some z → opd C env z = opd C env' z) → y.map (opd C env) = y.map (opd C env') := fun y hy => by
      cases y with
      | none => rfl
      | some z => simp [hy z rfl]
    simp only [e0, opt lo (fun z hz => h z (by simp [hz])), opt hi (fun z hz => h z (by simp [hz])), opt mx (fun z hz => h z (by simp [hz]))]
  case fieldAddr s x f => simp only [h x (by simp)]
  case field s x f => simp only [h x (by simp)]
  case indexAddr t x ix => simp only [h x (by simp), h ix (by simp)]
  case index t x ix => simp only [h x (by simp), h ix (by simp)]
  case extract x i => simp only [h x (by simp)]
  case call c =>
    have e1 : c.args.toList.map (opd C env) = c.args.toList.map (opd C env') := List.map_congr_left fun x hx => h x (by simp at hx; simp [Call.operands, hx])
    simp only [e1]
  case binOp op t x y yt => simp only [h x (by simp), h y (by simp), gen (by simp [ho])]
  case unOp op t x => simp only [h x (by simp), gen (by simp [ho])]
  case convert a b x => simp only [h x (by simp), gen (by simp [ho])]
  all_goals rfl

theorem cellsAt_congr {m m' : Mem} {id : Nat} : ∀ (n off : Nat), (∀ o, off ≤ o → o < off + n → m'.cell id o = m.cell id o) → cellsAt m' id off n = cellsAt m id off n := by
  intro n
  induction n with
  | zero => intro off _; rfl
  | succ n ih =>
    intro off h
    simp only [cellsAt]
    rw [h off (Nat.le_refl _) (by omega), ih (off + 1) (fun o h1 h2 => h o (by omega) (by omega))]

/-- m2 is m with what m1 has at the keys of W. -/
def OverM (W : Key → Prop) (m1 m m2 : Mem) : Prop := ∀ env k, memKey k → (W k → agree ⟨env, m2⟩ ⟨env, m1⟩ k) ∧ (¬ W k → agree ⟨env, m2⟩ ⟨env, m⟩ k)

theorem OverM.same {W : Key → Prop} (m1 m : Mem) (h : ∀ k, ¬ W k) : OverM W m1 m m := fun env k _ => ⟨fun hw => absurd hw (h k), fun _ => by cases k <;> rfl⟩

theorem newBlk_local {m m' : Mem} {new : Nat} {cs : List AVal} : OverM (newKeys new) (newBlk m new cs) m' (newBlk m' new cs) := by
  intro env k hk
  cases k with
  | tmp t => exact absurd hk (by simp [memKey])
  | cell i o => simp only [newKeys, agree, newBlk]; constructor <;> intro h <;> simp [h]
  | mode i => simp only [newKeys, agree, newBlk, upd]; constructor <;> intro h <;> simp [h]
  | siz i => simp only [newKeys, agree, newBlk, upd]; constructor <;> intro h <;> simp [h]
  | next => simp [newKeys, agree, newBlk]

theorem elemsA_congr {sz : Nat} {x : AVal} {m m' : Mem} (h : ∀ i ∈ idsOf x, (∀ o, m'.cell i o = m.cell i o) ∧ m'.mode i = m.mode i) : elemsA sz x m' = elemsA sz x m := by
  cases x <;> try rfl
  case own id off n s =>
    obtain ⟨h1, h2⟩ := h id (by simp [idsOf])
    simp only [elemsA, h2]
    rw [cellsAt_congr _ _ (fun o _ _ => h1 o)]

theorem appendA_local {P : Program} {t t' : TypeId} {s x v : AVal} {m m1 m' : Mem} {new : Nat} {L : List Nat} (h : appendA P t t' s x m new = some (v, m1)) (hc : ∀ i ∈ L, (∀ o, m'.cell i o = m.cell i o) ∧ m'.mode i = m.mode i ∧ m'.siz i = m.siz i)
    (hn : new ∈ L) (hs : ∀ i ∈ idsOf s, i ∈ L) (hx : ∀ i ∈ idsOf x, i ∈ L) : ∃ m2, appendA P t t' s x m' new = some (v, m2) ∧ OverM (blkKeys L) m1 m' m2 := by
  have same : OverM (blkKeys L) m m' m' := by
    intro env k hk
    cases k with
    | tmp t => exact absurd hk (by simp [memKey])
    | cell i o => exact ⟨fun hw => (hc i hw).1 o, fun _ => rfl⟩
    | mode i => exact ⟨fun hw => (hc i hw).2.1, fun _ => rfl⟩
    | siz i => exact ⟨fun hw => (hc i hw).2.2, fun _ => rfl⟩
    | next => exact ⟨fun hw => absurd hw (by simp [blkKeys]), fun _ => rfl⟩
  have blk : ∀ cs, OverM (blkKeys L) (newBlk m new cs) m' (newBlk m' new cs) := by
    intro cs env k hk
    cases k with
    | tmp t => exact absurd hk (by simp [memKey])
    | cell i o =>
      simp only [blkKeys, agree, newBlk]
      refine ⟨fun hw => ?_, fun hw => ?_⟩
      · by_cases e : i = new
        · simp [e]
        · simp only [if_neg e]; exact (hc i hw).1 o
      · rw [if_neg (show ¬ i = new from fun e => hw (by rw [e]; exact hn))]
    | mode i =>
      simp only [blkKeys, agree, newBlk, upd]
      refine ⟨fun hw => ?_, fun hw => ?_⟩
      · by_cases e : i = new
        · simp [e]
        · simp only [if_neg e]; exact (hc i hw).2.1
      · rw [if_neg (show ¬ i = new from fun e => hw (by rw [e]; exact hn))]
    | siz i =>
      simp only [blkKeys, agree, newBlk, upd]
      refine ⟨fun hw => ?_, fun hw => ?_⟩
      · by_cases e : i = new
        · simp [e]
        · simp only [if_neg e]; exact (hc i hw).2.2
      · rw [if_neg (show ¬ i = new from fun e => hw (by rw [e]; exact hn))]
    | next => exact ⟨fun hw => absurd hw (by simp [blkKeys]), fun _ => rfl⟩
  unfold appendA at h ⊢
  cases hu : P.underlying t with
  | none => rw [hu] at h; cases h
  | some d =>
    rw [hu] at h
    cases d <;> try (cases h)
    case slice e =>
      cases hu' : P.underlying t' with
      | none => rw [hu'] at h; cases h
      | some d' =>
        rw [hu'] at h
        cases d' <;> try (cases h)
        case slice e' =>
          simp only [] at h ⊢
          cases hi : P.info? e with
          | none => rw [hi] at h; cases h
          | some i =>
            rw [hi] at h
            simp only [] at h ⊢
            rw [elemsA_congr (fun i hi => ⟨(hc i (hx i hi)).1, (hc i (hx i hi)).2.1⟩)]
            cases hz : zeroA P e with
            | none => rw [hz] at h; cases h
            | some z =>
              cases he : elemsA i.size x m with
              | none => rw [hz, he] at h; cases h
              | some kn =>
                obtain ⟨k, news⟩ := kn
                rw [hz, he] at h
                simp only [] at h ⊢
                split at h
                · rename_i hcond
                  rw [if_pos ⟨hcond.1, hcond.2.1, (hc new hn).2.1.trans hcond.2.2⟩]
                  cases s <;> simp only [] at h ⊢ <;> try (cases h)
                  case nils =>
                    split at h
                    · rename_i h1; cases h; exact ⟨m', by rw [if_pos h1], same⟩
                    · rename_i h1
                      split at h
                      · rename_i h2; cases h; exact ⟨_, by rw [if_neg h1, if_pos h2], blk _⟩
                      · cases h
                  case emp =>
                    split at h
                    · rename_i h1; cases h; exact ⟨m', by rw [if_pos h1], same⟩
                    · rename_i h1
                      split at h
                      · rename_i h2; cases h; exact ⟨_, by rw [if_neg h1, if_pos h2], blk _⟩
                      · cases h
                  case own id off n sz =>
                    have hid := hs id (by simp [idsOf])
                    obtain ⟨e1, e2, e3⟩ := hc id hid
                    split at h
                    · rename_i h1
                      rw [if_pos (by rw [e2, e3]; exact h1), cellsAt_congr _ _ (fun o _ _ => e1 o)]
                      cases hcs : cellsAt m id off (n * sz) with
                      | none => rw [hcs] at h; cases h
                      | some olds =>
                        rw [hcs] at h
                        cases h
                        refine ⟨_, rfl, ?_⟩
                        intro env k hk
                        have hb := blk (olds ++ news) env k hk
                        cases k with
                        | tmp t => exact absurd hk (by simp [memKey])
                        | cell i o => exact hb
                        | siz i => exact hb
                        | next => exact hb
                        | mode i =>
                          simp only [blkKeys, agree, upd]
                          refine ⟨fun hw => ?_, fun hw => ?_⟩
                          · by_cases e : i = new
                            · simp [e]
                            · simp only [if_neg e]
                              by_cases e' : i = id
                              · simp [e']
                              · simp only [if_neg e']; exact (hc i hw).2.1
                          · rw [if_neg (show ¬ i = new from fun e => hw (by rw [e]; exact hn)), if_neg (show ¬ i = id from fun e => hw (by rw [e]; exact hid))]
                    · cases h
                · cases h

/-- An operation that calls no function is told by what it reads. -/
theorem aOp_local {o : Oper} {env : Nat → AVal} {m m1 m' : Mem} {new : Nat} {v : AVal} (hc : callOf o = none) (h : aOp C o env m new = some (v, m1))
    (ha : ∀ k, (memFP C o ⟨env, m⟩ new).R k → agree ⟨env, m'⟩ ⟨env, m⟩ k) : ∃ m2, aOp C o env m' new = some (v, m2) ∧ OverM (memFP C o ⟨env, m⟩ new).W m1 m' m2 := by
  have gen : ∀ {x : Option AVal}, x.map (fun z => (z, m)) = some (v, m1) → (∀ k, ¬ (memFP C o ⟨env, m⟩ new).W k) → ∃ m2, x.map (fun z => (z, m')) = some (v, m2) ∧ OverM (memFP C o ⟨env, m⟩ new).W m1 m' m2 := by
    intro x hx hW
    obtain ⟨rfl, rfl⟩ := map_some_eq (α := Unit) hx
    exact ⟨m', rfl, OverM.same _ _ hW⟩
  unfold memFP at ha gen ⊢
  simp only [hc] at ha gen ⊢
  unfold aOp at h ⊢
  cases ho : o.op <;> simp only [ho] at h ha gen ⊢
  case move x => cases h; exact ⟨m', rfl, OverM.same _ _ (by simp [FP.none])⟩
  case assign x => cases h; exact ⟨m', rfl, OverM.same _ _ (by simp [FP.none])⟩
  case pick c a b =>
    split at h
    · cases h; exact ⟨m', rfl, OverM.same _ _ (by simp [FP.none])⟩
    · cases h
  case alloc t =>
    have hd : m'.mode new = m.mode new := ha (.mode new) rfl
    unfold allocA at h ⊢
    split at h
    · rename_i z hz
      split at h
      · rename_i hdd
        cases h
        exact ⟨_, by simp only [hz, hd, hdd, if_true], newBlk_local⟩
      · cases h
    · cases h
  case box t x =>
    have hd : m'.mode new = m.mode new := ha (.mode new) rfl
    unfold boxA at h ⊢
    split at h
    · rename_i hdd
      cases h
      exact ⟨_, by rw [if_pos ⟨hdd.1, by rw [hd]; exact hdd.2⟩], newBlk_local⟩
    · cases h
  case build t ps => exact gen h (by simp [FP.none])
  case buildSlice t n ps =>
    have hd : m'.mode new = m.mode new := ha (.mode new) rfl
    unfold buildSliceA at h ⊢
    split at h
    · rename_i e he
      split at h
      · rename_i sz z hs hz
        split at h
        · rename_i hcond
          split at h
          · rename_i cs hf
            cases h
            exact ⟨newBlk m' new cs, by simp only [he, hs, hz, hd]; rw [if_pos hcond], newBlk_local⟩
          · cases h
        · cases h
      · cases h
    · cases h
  case load t a =>
    cases hl : loadA C.P t (opd C env a) m with
    | none => simp [hl] at h
    | some y =>
      simp only [hl, Option.map_some, Option.some.injEq, Prod.mk.injEq] at h
      obtain ⟨rfl, rfl⟩ := h
      have hsame : loadA C.P t (opd C env a) m' = loadA C.P t (opd C env a) m := by
        unfold loadA
        cases hA : isAggT C.P t with
        | none => rfl
        | some b =>
          cases hS : sizeT C.P t with
          | none => cases b <;> rfl
          | some n =>
            cases hx : opd C env a with
            | ptr id off =>
              simp only [hx, loadN, hA, hS] at ha
              have hmd : m'.mode id = m.mode id := ha (.mode id) (.inl rfl)
              cases b with
              | true =>
                have hcs : cellsAt m' id off n = cellsAt m id off n := cellsAt_congr n off fun o h1 h2 => ha (.cell id o) (.inr ⟨rfl, h1, h2⟩)
                simp only [hmd, hcs]
              | false =>
                have hcs : m'.cell id off = m.cell id off := ha (.cell id off) (.inr ⟨rfl, Nat.le_refl _, by simp⟩)
                simp only [hmd, hcs]
            | _ => cases b <;> rfl
      refine ⟨m', by rw [hsame, hl]; rfl, OverM.same _ _ ?_⟩
      intro k
      split <;> simp [FP.none]
  case store t a x =>
    cases hst : storeA C.P t (opd C env a) (opd C env x) m with
    | none => simp [hst] at h
    | some m2 =>
      simp only [hst, Option.map_some, Option.some.injEq, Prod.mk.injEq] at h
      obtain ⟨rfl, rfl⟩ := h
      unfold storeA at hst ⊢
      split at hst
      · rename_i id off n hx hS
        simp only [hx, hS, Option.getD_some] at ha ⊢
        split at hst
        · rename_i hcond
          split at hst
          · rename_i olds hold
            cases hst
            have hmd : m'.mode id = m.mode id := ha (.mode id) (.inl rfl)
            have hcs : cellsAt m' id off n = cellsAt m id off n := cellsAt_congr n off fun o h1 h2 => ha (.cell id o) (.inr ⟨rfl, h1, h2⟩)
            refine ⟨writeCells m' id off (opd C env x).cells, by rw [if_pos ⟨hcond.1, hcond.2.1, hcond.2.2.1, by rw [hmd]; exact hcond.2.2.2⟩, hcs, hold]; rfl, ?_⟩
            intro env' k hk
            cases k with
            | tmp t => exact absurd hk (by simp [memKey])
            | cell i o =>
              simp only [rowKeys, agree, writeCells]
              have hlen := hcond.2.1
              constructor
              · intro hw
                rw [if_pos (by omega), if_pos (by omega)]
              · intro hw
                rw [if_neg (by omega)]
            | mode i => simp [rowKeys, agree, writeCells]
            | siz i => simp [rowKeys, agree, writeCells]
            | next => simp [rowKeys, agree, writeCells]
          · cases hst
        · cases hst
      · cases hst
  case nilCheck x =>
    split at h
    · cases h; exact ⟨m', rfl, OverM.same _ _ (by simp [FP.none])⟩
    · cases h; exact ⟨m', rfl, OverM.same _ _ (by simp [FP.none])⟩
    · cases h; exact ⟨m', rfl, OverM.same _ _ (by simp [FP.none])⟩
    · cases h
  case makeFunc fn first captured =>
    cases fn <;> simp only [] at h ⊢ <;> try (cases h)
    exact ⟨m', rfl, OverM.same _ _ (by simp [FP.none])⟩
  case makeSlice t l c =>
    have hd : m'.mode new = m.mode new := ha (.mode new) rfl
    unfold makeSliceA at h ⊢
    split at h
    · rename_i e kl l' kc c' he hl hcc
      split at h
      · rename_i i z hi hz
        split at h
        · rename_i hcond
          cases h
          refine ⟨newBlk m' new (zeros z (l'.toNat * i.size)), by simp only [he, hl, hcc, hi, hz, hd]; rw [if_pos hcond], newBlk_local⟩
        · cases h
      · cases h
    · cases h
  case slice t x lo hi mx =>
    cases hsl : sliceA C.P t (opd C env x) (lo.map (opd C env)) (hi.map (opd C env)) (mx.map (opd C env)) m with
    | none => simp [hsl] at h
    | some y =>
      simp only [hsl, Option.map_some, Option.some.injEq, Prod.mk.injEq] at h
      obtain ⟨rfl, rfl⟩ := h
      have hsame : sliceA C.P t (opd C env x) (lo.map (opd C env)) (hi.map (opd C env)) (mx.map (opd C env)) m' = sliceA C.P t (opd C env x) (lo.map (opd C env)) (hi.map (opd C env)) (mx.map (opd C env)) m := by
        unfold sliceA
        cases hu : C.P.underlying t with
        | none => rfl
        | some d =>
          cases d <;> try rfl
          case array n e =>
            simp only []
            cases hsz : sizeT C.P e with
            | none => rfl
            | some sz =>
              simp only []
              cases hx : opd C env x with
              | ptr id off =>
                simp only [hx] at ha
                have h1 : m'.mode id = m.mode id := ha (.mode id) (.inl rfl)
                have h2 : m'.siz id = m.siz id := ha (.siz id) (.inr rfl)
                generalize boundsA n (lo.map (opd C env)) (hi.map (opd C env)) (mx.map (opd C env)) = q
                rcases q with _ | ⟨l, h', _ | k⟩ <;> simp only [h1, h2]
              | _ =>
                generalize boundsA n (lo.map (opd C env)) (hi.map (opd C env)) (mx.map (opd C env)) = q
                rcases q with _ | ⟨l, h', _ | k⟩ <;> rfl
      refine ⟨m', by rw [hsame, hsl]; rfl, OverM.same _ _ ?_⟩
      intro k
      split <;> simp [FP.none]
  case fieldAddr s x f => exact gen h (by simp [FP.none])
  case field s x f => exact gen h (by simp [FP.none])
  case indexAddr t x ix => exact gen h (by simp [FP.none])
  case index t x ix => exact gen h (by simp [FP.none])
  case extract x i => exact gen h (by simp [FP.none])
  case call c =>
    cases hcal : c.callee with
    | builtin b =>
      simp only [hcal] at h ha gen ⊢
      by_cases hb : b = .append
      · subst hb
        unfold builtinA at h ⊢
        split at h
        · rename_i t t' s x hts hxs
          rw [hxs] at ha ⊢
          simp only [List.flatMap_cons, List.flatMap_nil, List.append_nil] at ha ⊢
          exact appendA_local h (fun i hi => ⟨fun o => ha (.cell i o) hi, ha (.mode i) hi, ha (.siz i) hi⟩) (by simp) (fun i hi => by simp [hi]) (fun i hi => by simp [hi])
        all_goals first | contradiction | (cases h)
      · have hW : ∀ {F : FP}, F = FP.none → ∀ k, ¬ F.W k := fun e k => by rw [e]; simp [FP.none]
        have hF : (match b with | .append => (⟨blkKeys (new :: (c.args.toList.map (opd C env)).flatMap idsOf), blkKeys (new :: (c.args.toList.map (opd C env)).flatMap idsOf)⟩ : FP) | _ => FP.none) = FP.none := by cases b <;> first | rfl | exact absurd rfl hb
        have hW' := hW hF
        unfold builtinA at h ⊢
        split at h
        · exact absurd rfl hb
        · exact gen h hW'
        · cases h; exact ⟨m', rfl, OverM.same _ _ hW'⟩
        · cases h; exact ⟨m', rfl, OverM.same _ _ hW'⟩
        · cases h
    | _ => simp only [hcal] at h; cases h
  case binOp op t x y yt =>
    split at h
    · cases h; exact ⟨m', rfl, OverM.same _ _ (by simp [FP.none])⟩
    · exact gen h (by simp [FP.none])
  case unOp op t x =>
    split at h
    · cases h; exact ⟨m', rfl, OverM.same _ _ (by simp [FP.none])⟩
    · cases h; exact ⟨m', rfl, OverM.same _ _ (by simp [FP.none])⟩
    · exact gen h (by simp [FP.none])
  case convert a b x =>
    split at h
    · cases h; exact ⟨m', rfl, OverM.same _ _ (by simp [FP.none])⟩
    · exact gen h (by simp [FP.none])
  all_goals cases h
end
end Go.Ab
end
section
/- The abstract machine, fourteenth part: steps with their footprints; a region whose order is drawn. -/
set_option linter.unusedVariables false
set_option linter.unusedSimpArgs false
namespace Go.Ab

/-- Where an operation meets memory. -/
inductive Foot where
  | none
  | rd (id off n : Nat)
  | rdm (id : Nat)
  | wr (id off n : Nat)
  | new (id : Nat)
  | sh (next : Nat) (S : List Nat)
  | blk (L : List Nat)
  | rdl (L : List Nat)
  | all

def Foot.fp (ng : Nat) : Foot → FP
  | .none => FP.none
  | .rd id off n => ⟨fun q => q = .mode id ∨ rowKeys id off n q, fun _ => False⟩
  | .rdm id => ⟨fun q => q = .mode id ∨ q = .siz id, fun _ => False⟩
  | .wr id off n => ⟨fun q => q = .mode id ∨ rowKeys id off n q, rowKeys id off n⟩
  | .new id => ⟨fun q => q = .mode id, newKeys id⟩
  | .sh next S => ⟨shallowKeys ng next S, shallowKeys ng next S⟩
  | .blk L => ⟨blkKeys L, blkKeys L⟩
  | .rdl L => ⟨blkKeys L, fun _ => False⟩
  | .all => FP.all

def callFoot (C : Cfg) (g : FuncId) (args : List AVal) (next : Nat) : Foot :=
  match C.kind g with
  | .pure => if args.all (inertB 8) then .none else .all
  | .ext _ => if args.all (inertB 8) then .none else .all
  | .shallow => .sh next (args.flatMap idsOf)
  | .reader => .rdl (args.flatMap idsOf)
  | .plain => .all

def footOp (C : Cfg) (o : Oper) (s : St) (new : Nat) : Foot :=
  match callOf o with
  | some (f, args) => match opd C s.env f with
    | .fn g first captured => callFoot C g (first ++ args.map (opd C s.env) ++ captured) s.mem.next
    | _ => .all
  | none => match o.op with
    | .load t a => match opd C s.env a with
      | .ptr id off => .rd id off (loadN C.P t)
      | _ => .none
    | .store t a _ => match opd C s.env a with
      | .ptr id off => .wr id off ((sizeT C.P t).getD 0)
      | _ => .none
    | .alloc _ => .new new
    | .box _ _ => .new new
    | .buildSlice _ _ _ => .new new
    | .makeSlice _ _ _ => .new new
    | .slice _ x _ _ _ => match opd C s.env x with
      | .ptr id _ => .rdm id
      | _ => .none
    | .call c => match c.callee with
      | .builtin b => match b with
        | .append => .blk (new :: (c.args.toList.map (opd C s.env)).flatMap idsOf)
        | _ => .none
      | _ => .none
    | _ => .none

theorem memFP_foot (C : Cfg) (o : Oper) (s : St) (new : Nat) : memFP C o s new = (footOp C o s new).fp C.ng := by
  unfold memFP footOp
  cases hc : callOf o with
  | some p =>
    obtain ⟨f, args⟩ := p
    simp only []
    cases hf : opd C s.env f <;> try rfl
    simp only [callFP, callFoot]
    cases hk : C.kind _ <;> simp only [] <;> first | rfl | (split <;> rfl)
  | none =>
    simp only []
    cases ho : o.op <;> simp only [] <;> try rfl
    · rename_i t a
      cases opd C s.env a <;> rfl
    · rename_i t a x
      cases opd C s.env a <;> rfl
    · rename_i t x lo hi mx
      cases opd C s.env x <;> rfl
    · rename_i c
      cases c.callee <;> try rfl
      rename_i b
      cases b <;> rfl

/-- The footprint of a step, in the memory. -/
def foot (C : Cfg) (ops : Array Oper) (o : Oper) (s : St) (new : Nat) : Foot :=
  match wantedA ops s.env o with
  | some true => footOp C o s new
  | _ => .none

def stepR (C : Cfg) (ops : Array Oper) (o : Oper) (s : St) (new : Nat) : Key → Prop
  | .tmp t => t ∈ o.looksAt ops
  | k => ((foot C ops o s new).fp C.ng).R k
def stepW (C : Cfg) (ops : Array Oper) (o : Oper) (s : St) (new : Nat) : Key → Prop
  | .tmp t => o.dst = some t
  | k => ((foot C ops o s new).fp C.ng).W k

theorem stepR_mem {C : Cfg} {ops : Array Oper} {o : Oper} {s : St} {new : Nat} {k : Key} (h : memKey k) : stepR C ops o s new k = ((foot C ops o s new).fp C.ng).R k := by
  cases k <;> first | rfl | exact absurd h (by simp [memKey])
theorem stepW_mem {C : Cfg} {ops : Array Oper} {o : Oper} {s : St} {new : Nat} {k : Key} (h : memKey k) : stepW C ops o s new k = ((foot C ops o s new).fp C.ng).W k := by
  cases k <;> first | rfl | exact absurd h (by simp [memKey])

theorem fp_memR {ng : Nat} {f : Foot} {k : Key} (h : (f.fp ng).R k) : memKey k := by
  cases f <;> cases k <;> simp_all [Foot.fp, memKey, FP.none, FP.all, rowKeys, newKeys, shallowKeys, blkKeys]

theorem cellsAt_same {m m' : Mem} {id : Nat} (hc : ∀ o, m'.cell id o = m.cell id o) (off n : Nat) : cellsAt m' id off n = cellsAt m id off n := by
  induction n generalizing off with
  | zero => rfl
  | succ n ih => simp only [cellsAt, hc, ih]
theorem view_congr {m m' : Mem} : ∀ (args : List AVal), (∀ id, id ∈ args.flatMap idsOf → m'.mode id = m.mode id ∧ m'.siz id = m.siz id ∧ ∀ o, m'.cell id o = m.cell id o) → viewL m' args = viewL m args
  | [], _ => rfl
  | a :: r, h => by
    have h1 : viewV m' a = viewV m a := by
      cases a with
      | ptr id off =>
        obtain ⟨p, q, s⟩ := h id (by simp [idsOf])
        simp only [viewV, p, q, cellsAt_same s]
      | _ => rfl
    have h2 := view_congr (m := m) (m' := m') r (fun id hid => h id (by rw [List.flatMap_cons]; exact List.mem_append_right _ hid))
    simp only [viewL, h1, h2]

/-- A call of a function is told by what it reads. -/
theorem aCall_local {C : Cfg} {k : Nat} {g : FuncId} {args : List AVal} {m m1 m' : Mem} {v : AVal} (env : Nat → AVal) (h : aCall C k g args m = some (v, m1))
    (ha : ∀ q, ((callFoot C g args m.next).fp C.ng).R q → agree ⟨env, m'⟩ ⟨env, m⟩ q) : ∃ m2, aCall C k g args m' = some (v, m2) ∧ OverM ((callFoot C g args m.next).fp C.ng).W m1 m' m2 := by
  have whole : (∀ q, memKey q → agree ⟨env, m'⟩ ⟨env, m⟩ q) → m' = m := fun hq => by
    have := St.ext' (s := ⟨env, m'⟩) (s' := ⟨env, m⟩) fun q => by
      cases q with
      | tmp t => rfl
      | cell i o => exact hq (.cell i o) trivial
      | mode i => exact hq (.mode i) trivial
      | siz i => exact hq (.siz i) trivial
      | next => exact hq .next trivial
    exact congrArg St.mem this
  have allCase : ∀ {F : Foot}, F = .all → (∀ q, (F.fp C.ng).R q → agree ⟨env, m'⟩ ⟨env, m⟩ q) → ∃ m2, aCall C k g args m' = some (v, m2) ∧ OverM (F.fp C.ng).W m1 m' m2 := by
    intro F e hq
    subst e
    have := whole hq
    subst this
    exact ⟨m1, h, fun env' q hk => ⟨fun _ => by cases q <;> rfl, fun hn => absurd hk hn⟩⟩
  cases k with
  | zero => simp [aCall] at h
  | succ k =>
    cases hk : C.kind g with
    | plain => exact allCase (by simp [callFoot, hk]) ha
    | pure =>
      by_cases hi : args.all (inertB 8) = true
      · obtain ⟨xs, hx⟩ := inert_list (inert_spec 8) args hi
        simp only [aCall, hk, hx] at h ⊢
        simp only [callFoot, hk, hi, if_true]
        refine ⟨m', ?_, OverM.same _ _ (by simp [Foot.fp, FP.none])⟩
        split at h
        · rename_i r m2 hb
          split at h
          · rename_i r' m3 hf
            cases h
            rfl
          · cases h
        · cases h
      · exact allCase (by simp only [callFoot, hk, if_neg hi]) ha
    | ext f =>
      by_cases hi : args.all (inertB 8) = true
      · obtain ⟨xs, hx⟩ := inert_list (inert_spec 8) args hi
        simp only [aCall, hk, hx] at h ⊢
        simp only [callFoot, hk, hi, if_true]
        refine ⟨m', ?_, OverM.same _ _ (by simp [Foot.fp, FP.none])⟩
        split at h
        · cases h
          rfl
        · cases h
      · exact allCase (by simp only [callFoot, hk, if_neg hi]) ha
    | reader =>
      simp only [callFoot, hk, Foot.fp] at ha ⊢
      have hv : viewL m' args = viewL m args := view_congr args (fun id hid => ⟨ha (.mode id) hid, ha (.siz id) hid, fun o => ha (.cell id o) hid⟩)
      simp only [aCall, hk, hv] at h ⊢
      refine ⟨m', ?_, OverM.same _ _ (fun _ h => h)⟩
      split at h
      · split at h
        · split at h
          · split at h
            · rename_i hr
              cases h
              simp [*]
            · cases h
          · cases h
        · cases h
      · cases h
    | shallow =>
      simp only [callFoot, hk, Foot.fp] at ha ⊢
      have hn : m'.next = m.next := ha .next trivial
      have hr : restrict m' C.ng (args.flatMap idsOf) = restrict m C.ng (args.flatMap idsOf) := by
        unfold restrict
        congr 1
        · funext i o
          split
          · rename_i hs
            exact ha (.cell i o) (.inl hs)
          · rfl
        · funext i
          split
          · rename_i hs
            exact ha (.mode i) (.inl hs)
          · rfl
        · funext i
          split
          · rename_i hs
            exact ha (.siz i) (.inl hs)
          · rfl
      simp only [aCall, hk, hr] at h ⊢
      cases hb : aBody C (aCall C k) k g args (restrict m C.ng (args.flatMap idsOf)) with
      | none => simp [hb] at h
      | some p =>
        obtain ⟨r, mm⟩ := p
        simp only [hb] at h ⊢
        cases h
        refine ⟨_, rfl, ?_⟩
        intro env' q hq
        have key : ∀ i, (shown C.ng (args.flatMap idsOf) i = true ∨ m.next ≤ i) ↔ ¬ (i < m.next ∧ shown C.ng (args.flatMap idsOf) i = false) := by
          intro i
          cases shown C.ng (args.flatMap idsOf) i <;> simp
        cases q with
        | tmp t => exact absurd hq (by simp [memKey])
        | cell i o =>
          simp only [shallowKeys, agree, unrestrict, hn, key]
          constructor
          · intro hw; rw [if_neg hw, if_neg hw]
          · intro hw; rw [if_pos (Decidable.not_not.1 hw)]
        | mode i =>
          simp only [shallowKeys, agree, unrestrict, hn, key]
          constructor
          · intro hw; rw [if_neg hw, if_neg hw]
          · intro hw; rw [if_pos (Decidable.not_not.1 hw)]
        | siz i =>
          simp only [shallowKeys, agree, unrestrict, hn, key]
          constructor
          · intro hw; rw [if_neg hw, if_neg hw]
          · intro hw; rw [if_pos (Decidable.not_not.1 hw)]
        | next => simp [shallowKeys, agree, unrestrict]

theorem over_step {C : Cfg} {ops : Array Oper} {o : Oper} {s s' : St} {new : Nat} {v : AVal} {m1 m2 : Mem}
    (h : OverM ((foot C ops o s new).fp C.ng).W m1 s'.mem m2) :
    (⟨setOpt s'.env o.dst v, m2⟩ : St) = over (stepW C ops o s new) ⟨setOpt s.env o.dst v, m1⟩ s' := by
  refine St.ext' fun k => ?_
  by_cases hk : memKey k
  · by_cases hw : stepW C ops o s new k
    · refine agree_trans ?_ (agree_symm (over_in hw))
      have := (h s'.env k hk).1 (by rwa [stepW_mem hk] at hw)
      cases k <;> first | exact this | exact absurd hk (by simp [memKey])
    · refine agree_trans ?_ (agree_symm (over_out hw))
      have := (h s'.env k hk).2 (by rwa [stepW_mem hk] at hw)
      cases k <;> first | exact this | exact absurd hk (by simp [memKey])
  · cases k with
    | tmp t =>
      by_cases hw : o.dst = some t
      · refine agree_trans ?_ (agree_symm (over_in (W := stepW C ops o s new) (k := .tmp t) hw))
        simp [agree, setOpt, hw, upd]
      · refine agree_trans ?_ (agree_symm (over_out (W := stepW C ops o s new) (k := .tmp t) hw))
        cases hd : o.dst with
        | none => rfl
        | some d =>
          have : t ≠ d := fun e => hw (by rw [hd, e])
          simp [agree, setOpt, hd, upd, this]
    | _ => exact absurd trivial hk

theorem looksAt_operand {ops : Array Oper} {o : Oper} {t : Tmp} (h : Operand.tmp t ∈ o.op.operands) : t ∈ o.looksAt ops := by
  unfold Oper.looksAt
  refine List.mem_append_left _ ?_
  rw [List.mem_filterMap]
  exact ⟨.tmp t, by simpa using h, rfl⟩

theorem aStepO_local {C : Cfg} {k : Nat} {ops : Array Oper} {o : Oper} {new : Nat} {s s1 : St} (h : aStepO C (aCall C k) ops new o s = some s1) :
    Loc (aStepO C (aCall C k) ops new o) s s1 (stepR C ops o s new) (stepW C ops o s new) := by
  refine ⟨fun s' hs => ?_⟩
  have hop : ∀ x ∈ o.op.operands, opd C s'.env x = opd C s.env x := fun x hx => opd_congr fun t e => by
    subst e
    exact hs (.tmp t) (looksAt_operand hx)
  have hw : wantedA ops s'.env o = wantedA ops s.env o := by
    unfold wantedA
    cases hg : o.guard with
    | none => rfl
    | some p =>
      obtain ⟨j, want⟩ := p
      simp only []
      cases hj : (ops[j]?).bind (·.dst) with
      | none => rfl
      | some t =>
        have : s'.env t = s.env t := hs (.tmp t) (by
          show t ∈ o.looksAt ops
          unfold Oper.looksAt
          refine List.mem_append_right _ ?_
          rw [hg]
          simp only [hj]
          simp)
        simp only [this]
  unfold aStepO at h ⊢
  rw [hw]
  cases hwn : wantedA ops s.env o with
  | none => simp [hwn] at h
  | some b =>
    cases b with
    | false =>
      simp only [hwn] at h ⊢
      cases h
      refine congrArg some (over_step ?_)
      have : foot C ops o s new = .none := by simp only [foot, hwn]
      rw [this]
      exact OverM.same _ _ (by simp [Foot.fp, FP.none])
    | true =>
      have hfo : foot C ops o s new = footOp C o s new := by simp only [foot, hwn]
      simp only [hwn] at h ⊢
      have hmem : ∀ q, ((footOp C o s new).fp C.ng).R q → agree ⟨s.env, s'.mem⟩ s q := by
        intro q hq
        have hm := fp_memR hq
        have := hs q (by rw [stepR_mem hm, hfo]; exact hq)
        cases q <;> first | exact this | exact absurd hm (by simp [memKey])
      cases hc : callOf o with
      | some p =>
        obtain ⟨f, args⟩ := p
        simp only [hc] at h ⊢
        have hfx : f ∈ o.op.operands ∧ ∀ x ∈ args, x ∈ o.op.operands := by
          unfold callOf at hc
          split at hc
          · rename_i c hoc
            split at hc
            · rename_i f' hf'
              cases hc
              rw [hoc]
              simp only [Op.operands, Call.operands, hf']
              refine ⟨by simp, fun x hx => ?_⟩
              have : x ∈ c.args := by simpa using hx
              simp [this]
            · cases hc
          · cases hc
        have e1 : opd C s'.env f = opd C s.env f := hop f hfx.1
        have e2 : args.map (opd C s'.env) = args.map (opd C s.env) := List.map_congr_left fun x hx => hop x (hfx.2 x hx)
        rw [e1, e2]
        cases hf : opd C s.env f <;> simp only [hf] at h ⊢ <;> try (cases h)
        rename_i g first captured
        have hfoot : footOp C o s new = callFoot C g (first ++ args.map (opd C s.env) ++ captured) s.mem.next := by
          simp only [footOp, hc, hf]
        cases hcall : aCall C k g (first ++ args.map (opd C s.env) ++ captured) s.mem with
        | none => simp only [hcall] at h; cases h
        | some p =>
          obtain ⟨v, m1⟩ := p
          simp only [hcall] at h
          cases h
          obtain ⟨m2, h2, h3⟩ := aCall_local (m' := s'.mem) s.env hcall (by rw [← hfoot]; exact hmem)
          simp only [h2]
          refine congrArg some (over_step ?_)
          rw [hfo, hfoot]
          exact h3
      | none =>
        simp only [hc] at h ⊢
        rw [aOp_congr hop]
        cases ha : aOp C o s.env s.mem new with
        | none => simp [ha] at h
        | some p =>
          obtain ⟨v, m1⟩ := p
          simp only [ha] at h
          cases h
          obtain ⟨m2, h2, h3⟩ := aOp_local (m' := s'.mem) hc ha (by rw [memFP_foot]; exact hmem)
          simp only [h2]
          refine congrArg some (over_step ?_)
          rw [hfo, ← memFP_foot]
          exact h3

/-! Which operations stand before one. -/

def uni (xs ys : List Nat) : List Nat := xs ++ ys.filter fun y => !xs.contains y
theorem mem_uni {a : Nat} {xs ys : List Nat} (h : a ∈ uni xs ys) : a ∈ xs ∨ a ∈ ys := by
  rcases List.mem_append.1 h with h | h
  · exact .inl h
  · exact .inr (List.mem_filter.1 h).1

def ancs : List (List Nat) → List Oper → List (List Nat)
  | acc, [] => acc
  | acc, o :: r => ancs (acc ++ [(o.after.toList.filter (Region.binds .any)).foldr (fun e s => uni (e.on :: acc.getD e.on []) s) []]) r

theorem ancs_prefix : ∀ (r : List Oper) (acc : List (List Nat)), ∃ b, ancs acc r = acc ++ b := by
  intro r
  induction r with
  | nil => intro acc; exact ⟨[], by simp [ancs]⟩
  | cons o r ih =>
    intro acc
    obtain ⟨b, hb⟩ := ih (acc ++ [(o.after.toList.filter (Region.binds .any)).foldr (fun e s => uni (e.on :: acc.getD e.on []) s) []])
    exact ⟨_, by rw [ancs, hb, List.append_assoc]⟩

theorem mem_anc_fold {acc : List (List Nat)} {a : Nat} : ∀ (es : List Edge), a ∈ es.foldr (fun e s => uni (e.on :: acc.getD e.on []) s) [] → ∃ e ∈ es, e.on = a ∨ a ∈ acc.getD e.on [] := by
  intro es
  induction es with
  | nil => intro h; simp at h
  | cons e es ih =>
    intro h
    simp only [List.foldr_cons] at h
    rcases (mem_uni h).imp_left List.mem_cons.1 with (h | h) | h
    · exact ⟨e, by simp, .inl h.symm⟩
    · exact ⟨e, by simp, .inr h⟩
    · obtain ⟨e', h1, h2⟩ := ih h
      exact ⟨e', by simp [h1], h2⟩

theorem ancs_spec : ∀ (r pre : List Oper) (acc : List (List Nat)), acc.length = pre.length →
    (∀ (i : Nat) (o : Oper) (a : Nat), pre[i]? = some o → a ∈ acc.getD i [] → ∃ e ∈ o.after.toList, Region.binds .any e = true ∧ (e.on = a ∨ (e.on < i ∧ a ∈ acc.getD e.on []))) →
    ∀ (i : Nat) (o : Oper) (a : Nat), (pre ++ r)[i]? = some o → a ∈ (ancs acc r).getD i [] → ∃ e ∈ o.after.toList, Region.binds .any e = true ∧ (e.on = a ∨ (e.on < i ∧ a ∈ (ancs acc r).getD e.on [])) := by
  intro r
  induction r with
  | nil => intro pre acc hl h i o a ho ha; simpa [ancs] using h i o a (by simpa using ho) (by simpa [ancs] using ha)
  | cons o' r ih =>
    intro pre acc hl h i o a ho ha
    have := ih (pre ++ [o']) (acc ++ [(o'.after.toList.filter (Region.binds .any)).foldr (fun e s => uni (e.on :: acc.getD e.on []) s) []]) (by simp [hl]) ?_ i o a (by simpa using ho) (by simpa [ancs] using ha)
    · simpa [ancs] using this
    · intro i o a hio hai
      rcases Nat.lt_trichotomy i pre.length with hi | hi | hi
      · have e1 : pre[i]? = some o := by rwa [List.getElem?_append_left hi] at hio
        have e2 : a ∈ acc.getD i [] := by
          rw [List.getD_eq_getElem?_getD] at hai ⊢
          rwa [List.getElem?_append_left (by omega)] at hai
        obtain ⟨e, h1, h2, h3⟩ := h i o a e1 e2
        refine ⟨e, h1, h2, ?_⟩
        rcases h3 with h3 | ⟨h3, h4⟩
        · exact .inl h3
        · refine .inr ⟨h3, ?_⟩
          rw [List.getD_eq_getElem?_getD] at h4 ⊢
          rwa [List.getElem?_append_left (by omega)]
      · subst hi
        have e1 : o' = o := by simpa using hio
        subst e1
        have e2 : a ∈ (o'.after.toList.filter (Region.binds .any)).foldr (fun e s => uni (e.on :: acc.getD e.on []) s) [] := by
          rw [List.getD_eq_getElem?_getD, ← hl] at hai
          simpa using hai
        obtain ⟨e, h1, h2⟩ := mem_anc_fold _ e2
        obtain ⟨h1, h1b⟩ := List.mem_filter.1 h1
        refine ⟨e, h1, h1b, ?_⟩
        rcases h2 with h2 | h2
        · exact .inl h2
        · have hlt : e.on < acc.length := by
            rcases Nat.lt_or_ge e.on acc.length with hh | hh
            · exact hh
            · rw [List.getD_eq_getElem?_getD, List.getElem?_eq_none hh] at h2
              simp at h2
          refine .inr ⟨by omega, ?_⟩
          rw [List.getD_eq_getElem?_getD] at h2 ⊢
          rwa [List.getElem?_append_left hlt]
      · have : (pre ++ [o'])[i]? = none := List.getElem?_eq_none (by simp; omega)
        rw [this] at hio
        cases hio

theorem anc_pre {ops : Array Oper} {π : List Nat} (hg : Good ops π) : ∀ (i : Nat) (o : Oper) (a : Nat) (π1 π2 : List Nat), π = π1 ++ i :: π2 → ops[i]? = some o → a ∈ (ancs [] ops.toList).getD i [] → a ∈ π1 := by
  intro i
  induction i using Nat.strongRecOn with
  | ind i ih =>
    intro o a π1 π2 hπ ho ha
    obtain ⟨e, h1, h2, h3⟩ := ancs_spec ops.toList [] [] rfl (fun i o a h => by simp at h) i o a (by simpa using ho) ha
    have he := hg.deps π1 π2 i o hπ ho e h1 h2
    rcases h3 with h3 | ⟨h3, h4⟩
    · exact h3 ▸ he
    · obtain ⟨p, q, hpq⟩ := List.append_of_mem he
      have hi : i < ops.size := (Array.getElem?_eq_some_iff.1 ho).1
      have hoe : ops[e.on]? = some ops[e.on] := Array.getElem?_eq_getElem (by omega)
      have := ih e.on h3 _ a p (q ++ i :: π2) (by rw [hπ, hpq]; simp) hoe h4
      rw [hpq]
      simp [this]
end Go.Ab
end
section
/- The abstract machine, fifteenth part: a checked machine, whose drawn regions run in the order of the text. -/
set_option linter.unusedVariables false
set_option linter.unusedSimpArgs false
namespace Go.Ab

def Foot.apart (ng : Nat) : Foot → Foot → Prop
  | .none, _ => True
  | _, .none => True
  | .rd _ _ _, .rd _ _ _ => True
  | .rd _ _ _, .rdm _ => True
  | .rdm _, .rd _ _ _ => True
  | .rdm _, .rdm _ => True
  | .rdm _, .wr _ _ _ => True
  | .wr _ _ _, .rdm _ => True
  | .rd i a n, .wr j b k => i ≠ j ∨ a + n ≤ b ∨ b + k ≤ a
  | .wr i a n, .rd j b k => i ≠ j ∨ a + n ≤ b ∨ b + k ≤ a
  | .wr i a n, .wr j b k => i ≠ j ∨ a + n ≤ b ∨ b + k ≤ a
  | .rd i _ _, .new j => i ≠ j
  | .new j, .rd i _ _ => i ≠ j
  | .rdm i, .new j => i ≠ j
  | .new j, .rdm i => i ≠ j
  | .wr i _ _, .new j => i ≠ j
  | .new j, .wr i _ _ => i ≠ j
  | .new i, .new j => i ≠ j
  | .sh next S, .rd i _ _ => i < next ∧ shown ng S i = false
  | .rd i _ _, .sh next S => i < next ∧ shown ng S i = false
  | .sh next S, .wr i _ _ => i < next ∧ shown ng S i = false
  | .wr i _ _, .sh next S => i < next ∧ shown ng S i = false
  | .sh next S, .rdm i => i < next ∧ shown ng S i = false
  | .rdm i, .sh next S => i < next ∧ shown ng S i = false
  | .blk L, .rd i _ _ => i ∉ L
  | .rd i _ _, .blk L => i ∉ L
  | .blk L, .wr i _ _ => i ∉ L
  | .wr i _ _, .blk L => i ∉ L
  | .blk L, .rdm i => i ∉ L
  | .rdm i, .blk L => i ∉ L
  | .blk L, .new i => i ∉ L
  | .new i, .blk L => i ∉ L
  | .blk L, .blk L' => ∀ i, i ∈ L → i ∉ L'
  | .rdl _, .rd _ _ _ => True
  | .rd _ _ _, .rdl _ => True
  | .rdl _, .rdm _ => True
  | .rdm _, .rdl _ => True
  | .rdl _, .rdl _ => True
  | .rdl L, .wr i _ _ => i ∉ L
  | .wr i _ _, .rdl L => i ∉ L
  | .rdl L, .new i => i ∉ L
  | .new i, .rdl L => i ∉ L
  | .rdl L, .blk L' => ∀ i, i ∈ L → i ∉ L'
  | .blk L', .rdl L => ∀ i, i ∈ L → i ∉ L'
  | _, _ => False

theorem Foot.apart_symm {ng : Nat} {f g : Foot} (h : f.apart ng g) : g.apart ng f := by
  cases f <;> cases g <;> simp only [Foot.apart] at h ⊢ <;> first | trivial | omega | exact h | (exact fun e => h e.symm) | (exact fun i a b => h i b a)

theorem Foot.apart_half {ng : Nat} {f g : Foot} (h : f.apart ng g) : ∀ q, ¬ ((f.fp ng).W q ∧ ((g.fp ng).R q ∨ (g.fp ng).W q)) := by
  intro q ⟨hw, hr⟩
  cases f <;> cases g <;> cases q <;> simp only [Foot.apart, Foot.fp, FP.none, FP.all, rowKeys, newKeys, shallowKeys, blkKeys, memKey, or_false, false_or, or_self, reduceCtorEq, Key.mode.injEq, Key.siz.injEq, false_and, and_false] at h hw hr <;>
    first
    | omega
    | (obtain ⟨h1, h2⟩ := h
       rcases hw with hw | hw <;> rcases hr with hr | hr <;> first | (subst hr; rw [h2] at hw; cases hw) | (subst hr; omega) | (obtain ⟨hr, _⟩ := hr; subst hr; rw [h2] at hw; cases hw) | (obtain ⟨hr, _⟩ := hr; subst hr; omega) | omega)
    | (obtain ⟨h1, h2⟩ := h
       rcases hw with hw | hw <;> first | (subst hr; rw [h2] at hw; cases hw) | (subst hr; omega) | (obtain ⟨hr, _⟩ := hr; subst hr; rw [h2] at hw; cases hw) | (obtain ⟨hr, _⟩ := hr; subst hr; omega))
    | (obtain ⟨h1, h2⟩ := h
       rcases hr with hr | hr <;> first | (subst hw; rw [h2] at hr; cases hr) | (subst hw; omega) | (obtain ⟨hw, _⟩ := hw; subst hw; rw [h2] at hr; cases hr) | (obtain ⟨hw, _⟩ := hw; subst hw; omega))
    | (simp_all; done)
    | (rcases hr with hr | hr <;> simp_all; done)
    | (rcases hw with hw | hw <;> simp_all; done)
    | exact h _ hw hr
    | (rcases hr with hr | hr <;> exact h _ hw hr)

def quietB (o : Oper) : Bool :=
  match o.op with
  | .load _ _ | .store _ _ _ | .alloc _ | .box _ _ | .buildSlice _ _ _ | .makeSlice _ _ _ | .slice _ _ _ _ _ => false
  | .call c => match c.callee with
    | .builtin b => match b with
      | .append => false
      | _ => true
    | _ => false
  | _ => true
def newB (o : Oper) : Bool :=
  match o.op with
  | .alloc _ | .box _ _ | .buildSlice _ _ _ | .makeSlice _ _ _ => true
  | _ => false
def readB (o : Oper) : Bool :=
  match o.op with
  | .load _ _ | .slice _ _ _ _ _ => true
  | _ => false
def pairOk (o o' : Oper) : Bool := quietB o || quietB o' || (newB o && newB o') || (readB o && readB o')

theorem callOf_quiet {o : Oper} (h : quietB o = true ∨ newB o = true ∨ readB o = true) : callOf o = none := by
  unfold callOf
  cases ho : o.op <;> simp only []
  rename_i c
  simp only [quietB, newB, readB, ho] at h
  cases hc : c.callee <;> simp_all

theorem footOp_quiet {C : Cfg} {o : Oper} {s : St} {new : Nat} (h : quietB o = true) : footOp C o s new = .none := by
  unfold footOp
  rw [callOf_quiet (.inl h)]
  cases ho : o.op <;> simp only [quietB, ho] at h ⊢ <;> try (cases h)
  rename_i c
  cases hc : c.callee with
  | builtin b => cases b <;> simp_all
  | _ => rfl

theorem footOp_new {C : Cfg} {o : Oper} {s : St} {new : Nat} (h : newB o = true) : footOp C o s new = .new new := by
  unfold footOp
  rw [callOf_quiet (.inr (.inl h))]
  cases ho : o.op <;> simp only [newB, ho] at h ⊢ <;> cases h

theorem footOp_read {C : Cfg} {o : Oper} {s : St} {new : Nat} (h : readB o = true) : footOp C o s new = .none ∨ (∃ i a n, footOp C o s new = .rd i a n) ∨ ∃ i, footOp C o s new = .rdm i := by
  unfold footOp
  rw [callOf_quiet (.inr (.inr h))]
  cases ho : o.op <;> simp only [readB, ho] at h ⊢ <;> try (cases h)
  · split
    · exact .inr (.inl ⟨_, _, _, rfl⟩)
    · exact .inl rfl
  · split
    · exact .inr (.inr ⟨_, rfl⟩)
    · exact .inl rfl

theorem pairOk_apart {C : Cfg} {ops : Array Oper} {o o' : Oper} {s s' : St} {a b : Nat} (hab : a ≠ b) (h : pairOk o o' = true) : (foot C ops o s a).apart C.ng (foot C ops o' s' b) := by
  have n1 : ∀ g : Foot, Foot.apart C.ng .none g := fun g => by cases g <;> simp [Foot.apart]
  have n2 : ∀ g : Foot, Foot.apart C.ng g .none := fun g => Foot.apart_symm (n1 g)
  unfold foot
  split <;> split <;> try exact n1 _
  · simp only [pairOk, Bool.or_eq_true, Bool.and_eq_true] at h
    rcases h with ((h | h) | ⟨h, h'⟩) | ⟨h, h'⟩
    · rw [footOp_quiet h]; exact n1 _
    · rw [footOp_quiet h]; exact n2 _
    · rw [footOp_new h, footOp_new h']; exact hab
    · rcases footOp_read (C := C) (s := s) (new := a) h with h | ⟨i, x, n, h⟩ | ⟨i, h⟩ <;> rcases footOp_read (C := C) (s := s') (new := b) h' with h' | ⟨i', x', n', h'⟩ | ⟨i', h'⟩ <;> rw [h, h'] <;> simp [Foot.apart]
  · exact n2 _

/-- What a drawn region must be, but for the pairs in l. -/
def regOk (ops : Array Oper) (l : List (Nat × Nat)) : Bool :=
  wholeOk ops && (List.range ops.size).all fun j => (List.range j).all fun i =>
    ((ancs [] ops.toList).getD j []).contains i || (match ops[i]?, ops[j]? with
      | some x, some y => x.apart ops y && (pairOk x y || l.contains (i, j))
      | _, _ => true)

/-- The pairs of l whose later one is i do not meet. -/
def clear (ng : Nat) (i : Nat) (fs : List Foot) (f : Foot) : List (Nat × Nat) → Prop
  | [] => True
  | (a, b) :: r => (b = i → (fs.getD a .all).apart ng f) ∧ clear ng i fs f r

theorem clear_spec {ng i : Nat} {fs : List Foot} {f : Foot} {a : Nat} : ∀ {l : List (Nat × Nat)}, clear ng i fs f l → (a, i) ∈ l → (fs.getD a .all).apart ng f := by
  intro l
  induction l with
  | nil => intro _ h; cases h
  | cons p l ih =>
    obtain ⟨x, y⟩ := p
    intro h hm
    rcases List.mem_cons.1 hm with hm | hm
    · obtain ⟨rfl, rfl⟩ := Prod.mk.inj hm
      exact h.1 rfl
    · exact ih h.2 hm

open Classical in
noncomputable def cRun (C : Cfg) (call : CallF) (ops : Array Oper) (l : List (Nat × Nat)) : Nat → Nat → List Oper → List Foot → St → Option St
  | _, _, [], _, s => some s
  | new, i, o :: r, fs, s => if clear C.ng i fs (foot C ops o s new) l then
      (aStepO C call ops new o s).bind (cRun C call ops l (new + 1) (i + 1) r (fs ++ [if l.any (·.1 == i) then foot C ops o s new else .all]))
    else none

theorem cRun_run {C : Cfg} {call : CallF} {ops : Array Oper} {l : List (Nat × Nat)} : ∀ (r : List Oper) (new i : Nat) (fs : List Foot) (s t : St), cRun C call ops l new i r fs s = some t → aRun C call ops new r s = some t := by
  intro r
  induction r with
  | nil => intro new i fs s t h; exact h
  | cons o r ih =>
    intro new i fs s t h
    simp only [cRun] at h
    split at h
    · simp only [aRun]
      cases hs : aStepO C call ops new o s with
      | none => simp [hs] at h
      | some s1 =>
        simp only [hs, Option.bind_some] at h ⊢
        exact ih _ _ _ _ _ h
    · cases h

theorem cRun_spec {C : Cfg} {call : CallF} {ops : Array Oper} {l : List (Nat × Nat)} {base : Nat} : ∀ (r pre : List Oper) (fs : List Foot) (s t : St), ops.toList = pre ++ r → fs.length = pre.length →
    cRun C call ops l (base + pre.length) pre.length r fs s = some t →
    ∃ σ : Nat → St, σ pre.length = s ∧ σ ops.size = t ∧ (∀ i o, pre.length ≤ i → ops[i]? = some o → aStepO C call ops (base + i) o (σ i) = some (σ (i + 1))) ∧
      (∀ a b o, (a, b) ∈ l → pre.length ≤ b → ops[b]? = some o →
        (a < pre.length → (fs.getD a .all).apart C.ng (foot C ops o (σ b) (base + b))) ∧
        (∀ o', pre.length ≤ a → a < b → ops[a]? = some o' → (foot C ops o' (σ a) (base + a)).apart C.ng (foot C ops o (σ b) (base + b)))) := by
  intro r
  induction r with
  | nil =>
    intro pre fs s t ho hf h
    have hsz : ops.size = pre.length := by rw [← Array.length_toList, ho]; simp
    simp only [cRun, Option.some.injEq] at h
    refine ⟨fun _ => s, rfl, h, fun i o hi hio => ?_, fun a b o _ hb hbo => ?_⟩
    · have := (Array.getElem?_eq_some_iff.1 hio).1
      omega
    · have := (Array.getElem?_eq_some_iff.1 hbo).1
      omega
  | cons o r ih =>
    intro pre fs s t ho hf h
    simp only [cRun] at h
    split at h
    · rename_i hcl
      cases hs : aStepO C call ops (base + pre.length) o s with
      | none => simp [hs] at h
      | some s1 =>
        simp only [hs, Option.bind_some] at h
        have hpo : ops[pre.length]? = some o := by rw [← Array.getElem?_toList, ho]; simp
        obtain ⟨σ, h1, h2, h3, h4⟩ := ih (pre ++ [o]) (fs ++ [if l.any (·.1 == pre.length) then foot C ops o s (base + pre.length) else .all]) s1 t (by simp [ho]) (by simp [hf]) (by simpa [Nat.add_assoc] using h)
        simp only [List.length_append, List.length_singleton] at h1 h2 h3 h4
        have hlt : pre.length < ops.size := (Array.getElem?_eq_some_iff.1 hpo).1
        obtain ⟨σ', hnew, old⟩ : ∃ σ' : Nat → St, σ' pre.length = s ∧ ∀ i, pre.length + 1 ≤ i → σ' i = σ i := ⟨fun i => if i = pre.length then s else σ i, if_pos rfl, fun i hi => if_neg (by omega)⟩
        have fso : ∀ a, a < pre.length → (fs ++ [if l.any (·.1 == pre.length) then foot C ops o s (base + pre.length) else .all]).getD a .all = fs.getD a .all := fun a ha => by
          rw [List.getD_eq_getElem?_getD, List.getD_eq_getElem?_getD, List.getElem?_append_left (by omega)]
        have fsn : ∀ b, (pre.length, b) ∈ l → (fs ++ [if l.any (·.1 == pre.length) then foot C ops o s (base + pre.length) else .all]).getD pre.length .all = foot C ops o s (base + pre.length) := fun b hb => by
          have : l.any (·.1 == pre.length) = true := List.any_eq_true.2 ⟨_, hb, by simp⟩
          rw [List.getD_eq_getElem?_getD, ← hf, List.getElem?_append_right (Nat.le_refl _)]
          simp [hf, this]
        refine ⟨σ', hnew, ?_, ?_, ?_⟩
        · rw [old _ (by omega)]; exact h2
        · intro i o' hi hio
          rcases Nat.eq_or_lt_of_le hi with hi | hi
          · subst hi
            rw [hpo] at hio
            cases hio
            rw [hnew, old _ (Nat.le_refl _), h1]
            exact hs
          · rw [old i hi, old (i + 1) (by omega)]
            exact h3 i o' hi hio
        · intro a b ob hab hb hbo
          rcases Nat.eq_or_lt_of_le hb with hb | hb
          · subst hb
            rw [hpo] at hbo
            cases hbo
            rw [hnew]
            exact ⟨fun ha => clear_spec hcl hab, fun o' h5 h6 => by omega⟩
          · rw [old b hb]
            obtain ⟨g1, g2⟩ := h4 a b ob hab hb hbo
            refine ⟨fun ha => ?_, fun o' ha hlt' hao => ?_⟩
            · rw [← fso a ha]; exact g1 (by omega)
            · rcases Nat.eq_or_lt_of_le ha with ha | ha
              · subst ha
                rw [hpo] at hao
                cases hao
                rw [hnew, ← fsn b hab]
                exact g1 (by omega)
              · rw [old a ha]
                exact g2 o' ha hlt' hao
    · cases h

/-- The steps of a region, idle beyond its end. -/
noncomputable def stepN (C : Cfg) (k : Nat) (ops : Array Oper) (base i : Nat) (s : St) : Option St :=
  match ops[i]? with
  | some o => aStepO C (aCall C k) ops (base + i) o s
  | none => some s

theorem runs_stepN {C : Cfg} {k : Nat} {ops : Array Oper} {base : Nat} : ∀ (is : List Nat) (s : St), (∀ i ∈ is, i < ops.size) → aOps C (aCall C k) ops base is s = runs (stepN C k ops base) is s := by
  intro is
  induction is with
  | nil => intro s _; rfl
  | cons i is ih =>
    intro s h
    have hi := Array.getElem?_eq_getElem (h i (by simp))
    simp only [aOps, runs, stepN]
    rw [aStep_eq hi, hi]
    simp only []
    congr 1
    funext s1
    exact ih s1 fun j hj => h j (by simp [hj])

open Classical in
noncomputable def pieceOf {C : Cfg} {k : Nat} {ops : Array Oper} {base : Nat} (σ : Nat → St) (h : ∀ i o, ops[i]? = some o → aStepO C (aCall C k) ops (base + i) o (σ i) = some (σ (i + 1))) (i : Nat) : Piece (stepN C k ops base) i :=
  if hi : i < ops.size then
    ⟨σ i, σ (i + 1), stepR C ops ops[i] (σ i) (base + i), stepW C ops ops[i] (σ i) (base + i), by
      have e := Array.getElem?_eq_getElem hi
      have := aStepO_local (h i _ e)
      refine ⟨fun s hs => ?_⟩
      simp only [stepN, e]
      exact this.loc s hs⟩
  else ⟨σ i, σ i, fun _ => False, fun _ => False, by
      refine ⟨fun s _ => ?_⟩
      simp only [stepN, Array.getElem?_eq_none (Nat.not_lt.1 hi)]
      refine congrArg some (St.ext' fun q => agree_symm (over_out id))⟩

theorem region_same {C : Cfg} {k : Nat} {ops : Array Oper} {l : List (Nat × Nat)} {base : Nat} {s t : St} (hok : regOk ops l = true)
    (h : cRun C (aCall C k) ops l base 0 ops.toList [] s = some t) : SameOrders C (aCall C k) ops base s := by
  unfold regOk at hok
  simp only [Bool.and_eq_true] at hok
  obtain ⟨hwhole, hpairs⟩ := hok
  obtain ⟨σ, h1, h2, h3, h4⟩ := cRun_spec (ops := ops) (base := base) ops.toList [] [] s t rfl rfl h
  simp only [List.length_nil, Nat.zero_le, true_implies, Nat.not_lt_zero, false_implies, true_and] at h1 h3 h4
  let F := pieceOf σ h3
  have hF : ∀ i (hi : i < ops.size), F i = ⟨σ i, σ (i + 1), stepR C ops ops[i] (σ i) (base + i), stepW C ops ops[i] (σ i) (base + i), (by
      have e := Array.getElem?_eq_getElem hi
      have := aStepO_local (h3 i _ e)
      refine ⟨fun s hs => ?_⟩
      simp only [stepN, e]
      exact this.loc s hs)⟩ := fun i hi => by simp only [F, pieceOf, dif_pos hi]
  have hover : ∀ i (hi : i < ops.size), over (stepW C ops ops[i] (σ i) (base + i)) (σ (i + 1)) (σ i) = σ (i + 1) := by
    intro i hi
    have e := h3 i _ (Array.getElem?_eq_getElem hi)
    have := (aStepO_local e).loc (σ i) (fun q _ => by cases q <;> rfl)
    rw [e] at this
    exact (Option.some.inj this).symm
  have hchain : ∀ n i, i + n = ops.size → chain F (List.range' i n) (σ i) ∧ final F (List.range' i n) (σ i) = σ (i + n) := by
    intro n
    induction n with
    | zero => intro i _; exact ⟨trivial, rfl⟩
    | succ n ih =>
      intro i hi
      have hlt : i < ops.size := by omega
      simp only [List.range'_succ, chain, final]
      obtain ⟨g1, g2⟩ := ih (i + 1) (by omega)
      rw [hF i hlt]
      simp only []
      rw [hover i hlt]
      refine ⟨⟨?_, g1⟩, ?_⟩
      · intro q hq
        rw [hF i hlt]
        cases q <;> rfl
      · rw [g2]; congr 1; omega
  have hindep : ∀ a i, a < i → i < ops.size → a ∉ (ancs [] ops.toList).getD i [] → indep F a i := by
    intro a i hai hi hn
    have ha : a < ops.size := by omega
    have hp := List.all_eq_true.1 (List.all_eq_true.1 hpairs i (by simpa using hi)) a (by simpa using hai)
    rw [Array.getElem?_eq_getElem ha, Array.getElem?_eq_getElem hi] at hp
    simp only [Bool.or_eq_true, Bool.and_eq_true, List.contains_iff_mem] at hp
    obtain ⟨hap, hpk⟩ := hp.resolve_left hn
    have hfoot : (foot C ops ops[a] (σ a) (base + a)).apart C.ng (foot C ops ops[i] (σ i) (base + i)) := by
      rcases hpk with hpk | hpk
      · exact pairOk_apart (by omega) hpk
      · exact h4 a i _ hpk (Array.getElem?_eq_getElem hi) _ hai (Array.getElem?_eq_getElem ha)
    obtain ⟨p1, p2, p3⟩ := Oper.apart_spec hap
    unfold indep
    rw [hF a ha, hF i hi]
    simp only []
    constructor
    · intro q hq
      by_cases hm : memKey q
      · rw [stepW_mem hm, stepR_mem hm, stepW_mem hm] at hq
        exact Foot.apart_half hfoot q hq
      · cases q with
        | tmp x =>
          obtain ⟨q1, q2 | q2⟩ := hq
          · exact p1 x q1 q2
          · exact p2 x q1 q2
        | _ => exact absurd trivial hm
    · intro q hq
      by_cases hm : memKey q
      · rw [stepW_mem hm, stepR_mem hm, stepW_mem hm] at hq
        exact Foot.apart_half (Foot.apart_symm hfoot) q hq
      · cases q with
        | tmp x =>
          obtain ⟨q1, q2 | q2⟩ := hq
          · exact p3 x q1 q2
          · exact p2 x q2 q1
        | _ => exact absurd trivial hm
  have hrun := cRun_run _ _ _ _ _ _ h
  have htext : aOps C (aCall C k) ops base (List.range ops.size) s = some t := by
    have := aOps_range (C := C) (call := aCall C k) (ops := ops) (base := base) ops.toList [] s rfl
    rw [show List.range ops.size = List.range' ([] : List Oper).length ops.toList.length by simp [List.range_eq_range'], this]
    exact hrun
  intro u
  have hg := schedule_good hwhole (C.P.follows .mixedOrders) u
  rw [htext, runs_stepN _ _ (fun i hi => by simpa using hg.perm.subset hi)]
  have hc := hchain ops.size 0 (by omega)
  rw [← List.range_eq_range', h1] at hc
  have hany := chain_any F _ (List.range ops.size) s hc.1 List.nodup_range hg.perm ?_
  · rw [hany, hc.2]
    simp [h2]
  · intro A B i π1 π2 hπ hT a haA
    have hi : i < ops.size := by
      have : i ∈ List.range ops.size := by rw [hT]; simp
      simpa using this
    have hai : a < i := by
      have hs : (List.range ops.size).Pairwise (· < ·) := List.pairwise_lt_range
      rw [hT, List.pairwise_append] at hs
      exact hs.2.2 a haA i (by simp)
    by_cases han : a ∈ (ancs [] ops.toList).getD i []
    · exact .inl (anc_pre hg i _ a π1 π2 hπ (Array.getElem?_eq_getElem hi) han)
    · exact .inr (hindep a i hai hi han)

/-! The checked machine. -/

noncomputable def cRegion (C : Cfg) (call : CallF) (ops : Array Oper) (draw : Bool) (l : List (Nat × Nat)) (s : St) : Option St :=
  if draw then match l with
    | [] => aRun C call ops s.mem.next ops.toList (reserve s ops.size)
    | l => cRun C call ops l s.mem.next 0 ops.toList [] (reserve s ops.size)
  else aRun C call ops s.mem.next ops.toList (reserve s ops.size)

noncomputable def cCode (C : Cfg) (call : CallF) (T : Nat → List (Nat × Nat)) (n : Nat) : Code → St → Option (AExit × St)
  | .skip, s => some (.normal, s)
  | .seq a b, s => match cCode C call T n a s with
    | some (.normal, s1) => cCode C call T n b s1
    | r => r
  | .cond c a b, s => match opd C s.env c with
    | .bool t => if t then cCode C call T n a s else cCode C call T n b s
    | _ => none
  | .block id c, s => match cCode C call T n c s with
    | some (.exit id', s1) => if id' = id then some (.normal, s1) else some (.exit id', s1)
    | r => r
  | .loop c, s => aLoop (cCode C call T n c) n s
  | .exit id, s => some (.exit id, s)
  | .ret, s => some (.ret, s)
  | .region id ops draw, s => (cRegion C call ops draw (T id) s).map fun s1 => (.normal, s1)
  | .rangeFunc g ps a b, s => rangeF C call n g ps (cCode C call T n a) (cCode C call T n b) s
  | _, _ => none

def drawsOk (T : Nat → List (Nat × Nat)) : Code → Bool
  | .seq a b => drawsOk T a && drawsOk T b
  | .cond _ a b => drawsOk T a && drawsOk T b
  | .block _ c => drawsOk T c
  | .loop c => drawsOk T c
  | .region id ops draw => !draw || regOk ops (T id)
  | .rangeFunc _ _ a b => drawsOk T a && drawsOk T b
  | _ => true

noncomputable def cBody (C : Cfg) (call : CallF) (T : Nat → List (Nat × Nat)) (n : Nat) (f : FuncId) (args : List AVal) (m : Mem) : Option (AVal × Mem) :=
  match C.P.funcs[f]? with
  | none => none
  | some fn => match fn.body with
    | none => none
    | some code =>
      if drawsOk T code = true ∧ codeOk fn.ntmps code = true ∧ args.length ≤ fn.ntmps ∧ (fn.name == "runtime.NumGoroutine") = false then
        match cCode C call T n code ⟨fun i => (args[i]?).getD (.tup []), m⟩ with
        | some (.normal, s) => (resultsA C s fn.results.toList).map fun vs => (packA vs, s.mem)
        | some (.ret, s) => (resultsA C s fn.results.toList).map fun vs => (packA vs, s.mem)
        | _ => none
      else none

noncomputable def cCall (C : Cfg) (T : FuncId → Nat → List (Nat × Nat)) : Nat → CallF
  | 0, _, _, _ => none
  | k + 1, f, args, m => match C.kind f with
    | .plain => cBody C (cCall C T k) (T f) k f args m
    | .pure => match freezeL (freezeV 8) args m with
      | some (args', m1) => match cBody C (cCall C T k) (T f) k f args' C.m0 with
        | some (r, m2) => match freezeV 8 r m2 with
          | some (r', _) => some (r', m1)
          | none => none
        | none => none
      | none => none
    | .shallow => match cBody C (cCall C T k) (T f) k f args (restrict m C.ng (args.flatMap idsOf)) with
      | some (r, m') => some (r, unrestrict m C.ng (args.flatMap idsOf) m')
      | none => none
    | .reader => match viewL m args with
      | some args' => match cBody C (cCall C T k) (T f) k f args' C.m0 with
        | some (r, m2) => match freezeV 8 r m2 with
          | some (r', _) => if resB r' then some (r', m) else none
          | none => none
        | none => none
      | none => none
    | .ext g => match freezeL (freezeV 8) args m with
      | some (args', m1) => match g args' with
        | some r => some (r, m1)
        | none => none
      | none => none

def Le (c a : CallF) : Prop := ∀ f args m r, c f args m = some r → a f args m = some r

section
variable {C : Cfg} {c a : CallF} (hle : Le c a)
include hle

theorem aStepO_mono {ops : Array Oper} {new : Nat} {o : Oper} {s t : St} (h : aStepO C c ops new o s = some t) : aStepO C a ops new o s = some t := by
  unfold aStepO at h ⊢
  cases hw : wantedA ops s.env o with
  | none => simp [hw] at h
  | some b =>
    cases b with
    | false => simpa only [hw] using h
    | true =>
      simp only [hw] at h ⊢
      cases hc : callOf o with
      | none => simpa only [hc] using h
      | some p =>
        obtain ⟨f, args⟩ := p
        simp only [hc] at h ⊢
        cases hf : opd C s.env f <;> simp only [hf] at h ⊢ <;> try (cases h)
        rename_i g first captured
        cases hcall : c g (first ++ args.map (opd C s.env) ++ captured) s.mem with
        | none => simp only [hcall] at h; cases h
        | some p =>
          simp only [hcall] at h
          simp only [hle _ _ _ _ hcall]
          exact h

theorem aRun_mono {ops : Array Oper} : ∀ (r : List Oper) (new : Nat) (s t : St), aRun C c ops new r s = some t → aRun C a ops new r s = some t := by
  intro r
  induction r with
  | nil => intro new s t h; exact h
  | cons o r ih =>
    intro new s t h
    simp only [aRun] at h ⊢
    cases hs : aStepO C c ops new o s with
    | none => simp [hs] at h
    | some s1 =>
      rw [hs, Option.bind_some] at h
      rw [aStepO_mono hle hs, Option.bind_some]
      exact ih _ _ _ h

theorem cRun_mono {ops : Array Oper} {l : List (Nat × Nat)} : ∀ (r : List Oper) (new i : Nat) (fs : List Foot) (s t : St), cRun C c ops l new i r fs s = some t → cRun C a ops l new i r fs s = some t := by
  intro r
  induction r with
  | nil => intro new i fs s t h; exact h
  | cons o r ih =>
    intro new i fs s t h
    simp only [cRun] at h ⊢
    split at h
    · rename_i hcl
      rw [if_pos hcl]
      cases hs : aStepO C c ops new o s with
      | none => simp [hs] at h
      | some s1 =>
        rw [hs, Option.bind_some] at h
        rw [aStepO_mono hle hs, Option.bind_some]
        exact ih _ _ _ _ _ h
    · cases h
end

theorem cRun_nil {C : Cfg} {call : CallF} {ops : Array Oper} : ∀ (r : List Oper) (new i : Nat) (fs : List Foot) (s : St), cRun C call ops [] new i r fs s = aRun C call ops new r s := by
  intro r
  induction r with
  | nil => intro new i fs s; rfl
  | cons o r ih =>
    intro new i fs s
    simp only [cRun, aRun]
    rw [if_pos (show clear C.ng i fs (foot C ops o s new) [] from trivial)]
    congr 1
    funext s1
    exact ih _ _ _ _

theorem aLoop_mono {f g : St → Option (AExit × St)} (h : ∀ s r, f s = some r → g s = some r) : ∀ (n : Nat) (s : St) (r : AExit × St), aLoop f n s = some r → aLoop g n s = some r := by
  intro n
  induction n with
  | zero => intro s r hr; simp [aLoop] at hr
  | succ n ih =>
    intro s r hr
    simp only [aLoop] at hr ⊢
    cases hf : f s with
    | none => simp [hf] at hr
    | some p =>
      obtain ⟨e, s1⟩ := p
      rw [h _ _ hf]
      rw [hf] at hr
      cases e with
      | normal => exact ih _ _ hr
      | exit id => exact hr
      | ret => exact hr

theorem cRegion_le {C : Cfg} {c : CallF} {k : Nat} (hle : Le c (aCall C k)) {ops : Array Oper} {draw : Bool} {l : List (Nat × Nat)} {s t : St} (hok : (!draw || regOk ops l) = true) (h : cRegion C c ops draw l s = some t) :
    aRegion C (aCall C k) ops draw s = some t := by
  unfold cRegion at h
  cases draw with
  | false =>
    rw [aRegion_seq]
    exact aRun_mono hle _ _ _ _ (by simpa using h)
  | true =>
    simp only [if_true] at h
    have hok' : regOk ops l = true := by simpa using hok
    have h' : cRun C c ops l s.mem.next 0 ops.toList [] (reserve s ops.size) = some t := by
      cases l with
      | nil => rw [cRun_nil]; exact h
      | cons p l => exact h
    have h'' := cRun_mono hle _ _ _ _ _ _ h'
    rw [aRegion_draw (region_same hok' h'')]
    exact cRun_run _ _ _ _ _ _ h''


/-! Ranges over functions. -/
theorem aStep_mono {C : Cfg} {c a : CallF} (hle : Le c a) {ops : Array Oper} {base i : Nat} {s t : St} (h : aStep C c ops base i s = some t) : aStep C a ops base i s = some t := by
  cases ho : ops[i]? with
  | none => unfold aStep at h; rw [ho] at h; cases h
  | some o =>
    rw [aStep_eq ho] at h ⊢
    exact aStepO_mono hle h

def YLe (f g : YF) : Prop := ∀ args m r, f args m = some r → g args m = some r

theorem yStep_mono {C : Cfg} {c a : CallF} (hle : Le c a) {f g : YF} (hy : YLe f g) {ops : Array Oper} {base i : Nat} {x t : YS} (h : yStep C c f ops base i x = some t) : yStep C a g ops base i x = some t := by
  unfold yStep at h ⊢
  cases ho : ops[i]? with
  | none => rw [ho] at h; cases h
  | some o =>
    rw [ho] at h
    simp only [] at h ⊢
    cases hw : wantedA ops x.st.env o with
    | none => rw [hw] at h; cases h
    | some b =>
      rw [hw] at h
      cases b with
      | false =>
        simp only [] at h ⊢
        obtain ⟨s, h1, h2⟩ := Option.map_eq_some_iff.1 h
        rw [aStep_mono hle h1]
        exact congrArg some h2
      | true =>
        simp only [] at h ⊢
        cases hc : yCallee x.y o with
        | none =>
          rw [hc] at h
          simp only [] at h ⊢
          obtain ⟨s, h1, h2⟩ := Option.map_eq_some_iff.1 h
          rw [aStep_mono hle h1]
          exact congrArg some h2
        | some args =>
          rw [hc] at h
          simp only [] at h ⊢
          cases hp : x.p with
          | some e => rw [hp] at h; cases h
          | none =>
            rw [hp] at h
            simp only [] at h ⊢
            cases hf : f (args.map (opd C x.st.env)) x.st.mem with
            | none => rw [hf] at h; cases h
            | some r =>
              rw [hf] at h
              rw [hy _ _ _ hf]
              exact h

theorem yOps_mono {C : Cfg} {c a : CallF} (hle : Le c a) {f g : YF} (hy : YLe f g) {ops : Array Oper} {base : Nat} : ∀ (is : List Nat) (x t : YS), yOps C c f ops base is x = some t → yOps C a g ops base is x = some t := by
  intro is
  induction is with
  | nil => intro x t h; exact h
  | cons i is ih =>
    intro x t h
    simp only [yOps] at h ⊢
    cases hs : yStep C c f ops base i x with
    | none => simp [hs] at h
    | some x1 =>
      rw [hs] at h
      rw [yStep_mono hle hy hs]
      exact ih _ _ h

theorem yLoop_mono {f g : YS → Option (AExit × YS)} (h : ∀ x r, f x = some r → g x = some r) : ∀ (n n' : Nat) (x : YS) (r : AExit × YS), n ≤ n' → yLoop f n x = some r → yLoop g n' x = some r := by
  intro n
  induction n with
  | zero => intro n' x r _ hr; simp [yLoop] at hr
  | succ n ih =>
    intro n' x r hn hr
    obtain ⟨k, rfl⟩ : ∃ k, n' = k + 1 := ⟨n' - 1, by omega⟩
    simp only [yLoop] at hr ⊢
    cases hf : f x with
    | none => simp [hf] at hr
    | some p =>
      obtain ⟨e, x1⟩ := p
      rw [hf] at hr
      rw [h _ _ hf]
      cases e with
      | normal => exact ih k _ _ (by omega) hr
      | exit id => exact hr
      | ret => exact hr

theorem yCode_mono {C : Cfg} {c a : CallF} (hle : Le c a) {f g : YF} (hy : YLe f g) {n n' : Nat} (hn : n ≤ n') : ∀ (code : Code) (x : YS) (r : AExit × YS), yCode C c f n code x = some r → yCode C a g n' code x = some r := by
  intro code
  induction code with
  | seq y z ihy ihz =>
    intro x r h
    simp only [yCode] at h ⊢
    cases hx : yCode C c f n y x with
    | none => simp [hx] at h
    | some p =>
      obtain ⟨e, x1⟩ := p
      rw [ihy _ _ hx]
      rw [hx] at h
      cases e with
      | normal => exact ihz _ _ h
      | exit id => exact h
      | ret => exact h
  | cond y z1 z2 ihy ihz =>
    intro x r h
    simp only [yCode] at h ⊢
    cases hx : opd C x.st.env y <;> simp only [hx] at h ⊢ <;> try (cases h)
    rename_i b
    cases b with
    | true => exact ihy _ _ (by simpa using h)
    | false => exact ihz _ _ (by simpa using h)
  | block id y ih =>
    intro x r h
    simp only [yCode] at h ⊢
    cases hx : yCode C c f n y x with
    | none => simp [hx] at h
    | some p =>
      rw [ih _ _ hx]
      rw [hx] at h
      exact h
  | loop y ih =>
    intro x r h
    simp only [yCode] at h ⊢
    exact yLoop_mono (fun x r hr => ih x r hr) _ _ _ _ hn h
  | region id ops draw =>
    intro x r h
    simp only [yCode] at h ⊢
    cases draw with
    | true => simp at h
    | false =>
      simp only [Bool.false_eq_true, if_false] at h ⊢
      obtain ⟨x1, h1, h2⟩ := Option.map_eq_some_iff.1 h
      rw [yOps_mono hle hy _ _ _ h1]
      exact congrArg some h2
  | _ => intro x r h; simp only [yCode] at h ⊢; first | exact h | (cases h)

theorem rangeF_mono {C : Cfg} {c a : CallF} (hle : Le c a) {fa fb ga gb : St → Option (AExit × St)} (ha : ∀ s r, fa s = some r → ga s = some r) (hb : ∀ s r, fb s = some r → gb s = some r) {n n' : Nat} (hn : n ≤ n') {g : Operand} {ps : Array Tmp} {s : St} {r : AExit × St}
    (h : rangeF C c n g ps fa fb s = some r) : rangeF C a n' g ps ga gb s = some r := by
  have hy : YLe (roundF s.env ps fa fb) (roundF s.env ps ga gb) := by
    intro args m r h
    unfold roundF at h ⊢
    split at h
    · rename_i hs
      rw [if_pos hs]
      cases h1 : fa ⟨setAll s.env ps.toList args, m⟩ with
      | none => rw [h1] at h; cases h
      | some p =>
        obtain ⟨e, s1⟩ := p
        rw [h1] at h
        rw [ha _ _ h1]
        cases e with
        | exit id => cases h
        | ret => cases h
        | normal =>
          simp only [] at h ⊢
          cases h2 : fb s1 with
          | none => rw [h2] at h; cases h
          | some q =>
            rw [h2] at h
            rw [hb _ _ h2]
            exact h
    · cases h
  unfold rangeF at h ⊢
  split at h
  · rename_i f captured hg
    split at h
    · rename_i fn hfn
      split at h
      · rename_i code hcode
        split at h
        · rename_i hc
          rw [if_pos hc]
          cases hx : yCode C c (roundF s.env ps fa fb) n code ⟨⟨yEnv captured, s.mem⟩, [0], none⟩ with
          | none => rw [hx] at h; cases h
          | some p =>
            rw [hx] at h
            rw [yCode_mono hle hy hn _ _ _ hx]
            exact h
        · cases h
      · cases h
    · cases h
  · cases h

theorem cCode_le {C : Cfg} {c : CallF} {k : Nat} (hle : Le c (aCall C k)) {T : Nat → List (Nat × Nat)} {n : Nat} : ∀ (code : Code) (s : St) (r : AExit × St), drawsOk T code = true → cCode C c T n code s = some r → aCode C (aCall C k) n code s = some r := by
  intro code
  induction code with
  | seq x y ihx ihy =>
    intro s r hd h
    simp only [drawsOk, Bool.and_eq_true] at hd
    simp only [cCode] at h
    simp only [aCode]
    cases hx : cCode C c T n x s with
    | none => simp [hx] at h
    | some p =>
      obtain ⟨e, s1⟩ := p
      rw [ihx _ _ hd.1 hx]
      rw [hx] at h
      cases e with
      | normal => exact ihy _ _ hd.2 h
      | exit id => exact h
      | ret => exact h
  | cond x y z ihy ihz =>
    intro s r hd h
    simp only [drawsOk, Bool.and_eq_true] at hd
    simp only [cCode] at h
    simp only [aCode]
    cases hx : opd C s.env x <;> simp only [hx] at h ⊢ <;> try (cases h)
    rename_i b
    cases b with
    | true => exact ihy _ _ hd.1 (by simpa using h)
    | false => exact ihz _ _ hd.2 (by simpa using h)
  | block id x ihx =>
    intro s r hd h
    simp only [cCode] at h
    simp only [aCode]
    cases hx : cCode C c T n x s with
    | none => simp [hx] at h
    | some p =>
      rw [ihx _ _ hd hx]
      rw [hx] at h
      exact h
  | loop x ihx =>
    intro s r hd h
    simp only [cCode] at h
    simp only [aCode]
    exact aLoop_mono (fun s r hr => ihx s r hd hr) _ _ _ h
  | region id ops draw =>
    intro s r hd h
    simp only [cCode] at h
    simp only [aCode]
    cases hx : cRegion C c ops draw (T id) s with
    | none => simp [hx] at h
    | some t =>
      rw [cRegion_le hle hd hx]
      rw [hx] at h
      exact h
  | rangeFunc g ps x y ihx ihy =>
    intro s r hd h
    simp only [drawsOk, Bool.and_eq_true] at hd
    simp only [cCode] at h
    simp only [aCode]
    exact rangeF_mono hle (fun s r h => ihx s r hd.1 h) (fun s r h => ihy s r hd.2 h) (Nat.le_refl _) h
  | _ => intro s r hd h; simp only [cCode] at h; first | exact h | (cases h)

theorem cBody_le {C : Cfg} {c : CallF} {k : Nat} (hle : Le c (aCall C k)) {T : Nat → List (Nat × Nat)} {n : Nat} {f : FuncId} {args : List AVal} {m : Mem} {r : AVal × Mem} (h : cBody C c T n f args m = some r) : aBody C (aCall C k) n f args m = some r := by
  unfold cBody at h
  unfold aBody
  cases hf : C.P.funcs[f]? with
  | none => simp [hf] at h
  | some fn =>
    simp only [hf] at h ⊢
    cases hb : fn.body with
    | none => simp [hb] at h
    | some code =>
      simp only [hb] at h ⊢
      split at h
      · rename_i hc
        rw [if_pos hc.2]
        cases hx : cCode C c T n code ⟨fun i => (args[i]?).getD (.tup []), m⟩ with
        | none => simp [hx] at h
        | some p =>
          rw [cCode_le hle code _ _ hc.1 hx]
          rw [hx] at h
          exact h
      · cases h

theorem cCall_le (C : Cfg) (T : FuncId → Nat → List (Nat × Nat)) : ∀ k, Le (cCall C T k) (aCall C k) := by
  intro k
  induction k with
  | zero => intro f args m r h; simp [cCall] at h
  | succ k ih =>
    intro f args m r h
    simp only [cCall] at h
    simp only [aCall]
    cases hk : C.kind f with
    | plain => simp only [hk] at h ⊢; exact cBody_le ih h
    | pure =>
      simp only [hk] at h ⊢
      split at h
      · rename_i args' m1 hfz
        split at h
        · rename_i r1 m2 hb
          simp only [hfz, cBody_le ih hb]
          exact h
        · cases h
      · cases h
    | shallow =>
      simp only [hk] at h ⊢
      split at h
      · rename_i r1 m' hb
        simp only [cBody_le ih hb]
        exact h
      · cases h
    | reader =>
      simp only [hk] at h ⊢
      split at h
      · rename_i args' hv
        split at h
        · rename_i r1 m2 hb
          simp only [hv, cBody_le ih hb]
          exact h
        · cases h
      · cases h
    | ext g =>
      rw [hk] at h
      exact h
end Go.Ab
end
