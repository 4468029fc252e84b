/- THE STATEMENT TopTuned: for every input the law of shares of the air and of tuned rates returns true, and each argument reads behind the call as it read before. Conditions: none. -/
import Derived.Test.YtmfdjipijifababRows
import Derived.Test.YtmfdjipijifababPart9
import Derived.ProofKit
set_option linter.unusedVariables false
set_option linter.unusedSimpArgs false
set_option maxRecDepth 100000
namespace Go.Proofs.Ytmfdjipijifabab
open Go Go.ChangeShapes Go.WideShapes Go.ChangeAt Go.RowKit Go.Ab

theorem own : ownKnob Try.prog.godebug = none := by kernel_rfl
theorem laidOut : laidOutB Try.prog = true := by kernel_rfl

section
variable {H : Type} {ench : TypeId × Value → H}
theorem elem_cor {w : World} {spare : Nat → Bool} {held : Bool} : ElemOf ench Try.prog w spare held 31 eCor := fun n cs x hx => by
  obtain ⟨z0, h0⟩ := field_int Try.underlying31 hx (i := 0) rfl Try.underlying3
  obtain ⟨z1, h1⟩ := field_int Try.underlying31 hx (i := 1) rfl Try.underlying3
  obtain ⟨z2, h2⟩ := field_int Try.underlying31 hx (i := 2) rfl Try.underlying3
  obtain ⟨z3, h3⟩ := field_int Try.underlying31 hx (i := 3) rfl Try.underlying3
  obtain ⟨z4, h4⟩ := field_int Try.underlying31 hx (i := 4) rfl Try.underlying3
  refine ⟨⟨z0, z1, z2, z3, z4⟩, fun j c hj => ?_⟩
  match j with
  | 0 => simp [eCor] at hj; subst hj; exact ⟨_, h0, rfl, .int _ _⟩
  | 1 => simp [eCor] at hj; subst hj; exact ⟨_, h1, rfl, .int _ _⟩
  | 2 => simp [eCor] at hj; subst hj; exact ⟨_, h2, rfl, .int _ _⟩
  | 3 => simp [eCor] at hj; subst hj; exact ⟨_, h3, rfl, .int _ _⟩
  | 4 => simp [eCor] at hj; subst hj; exact ⟨_, h4, rfl, .int _ _⟩
  | j + 5 => simp [eCor] at hj
end

/-- No contract is taken from elsewhere. -/
theorem ext_ok : ExtOK C := fun f g h => by
  simp only [C] at h
  exfalso
  repeat' (split at h)
  all_goals cases h

theorem lifted (os : Os) (started : os.Started) (H : Type) (enc : TypeId × Value → H) :
    ReturnsInHanded {} Try.checked os 3 .any (Rows.topTunedSpec.pre6 enc Try.prog Try.f3 Rows.topTunedRow.domain false) (Rows.topTunedSpec.post enc Try.prog Try.f3 false true false false) := by
  refine returnsInHanded_of_change (C := Try.checked) own started (by kernel_rfl) Try.func3
    (ChangeSpec.witness6 (enc := enc) (C := Try.checked) false ⟨#[], #[.slice none 0 0, .int .i64 0], []⟩ 8 (by kernel_rfl) (by kernel_rfl) (by kernel_rfl) (by kernel_rfl)) ?_
  intro W base args ds gs before hval0 hW _ _
  have hval : ∀ (j : Nat) t v, Try.f3.params[j]? = some t → args[j]? = some v → Value.okWide Try.prog W .any base t v := hval0
  have hW' := hW
  obtain ⟨p, q, hA0, hV, rfl, hfz, hnd⟩ := hW
  obtain ⟨rfl, rfl⟩ := trodVars_none hV
  have hA : DataW.TrodAll enc Try.prog W 0 (fun _ => true) true Try.f3.params.toList args.toList ds p := hA0
  rw [Try.params3] at hA hval
  obtain ⟨v0, r0, d0, s0, p0, q0, hr0, rfl, rfl, h0, hA⟩ := trodAll_cons hA
  obtain ⟨v1, r1, d1, s1, p1, q1, rfl, rfl, rfl, h1, hA⟩ := trodAll_cons hA
  obtain ⟨rfl, rfl, rfl⟩ := trodAll_nil hA
  obtain ⟨av⟩ := args
  simp only at hr0
  subst hr0
  obtain ⟨n1, rfl, _⟩ := open_int Try.underlying3 (hval 1 3 v1 rfl rfl) h1
  obtain ⟨l, a, hl, hva⟩ := sl_of_trod Try.underlying22 (show Try.prog.cellsOf 31 = 5 by kernel_rfl) (by decide) eCor_len elem_cor (hval 0 22 v0 rfl rfl) h0
  have hc := cCall_le C T 2600300 _ _ _ _ (c3 2600300 (by omega) a l hl n1 [a, .int .i64 n1] C.m0 C.m0 (by simp [SL.fz hl]))
  obtain ⟨_, _, hs⟩ := aCall_sound ext_ok 2600300 _ _ _ _ _ hc
  have hgl : GlobOK C (old W) W := fun g hg _ => absurd hg (by show ¬ g < 0; omega)
  have hm := m0_mem hgl (fun b hb => hb)
  have hren : ∀ g, g < C.ng → ren0 C g = some (g, 0) := fun g hg => if_pos hg
  have hfr : ∀ id, C.m0.next ≤ id → ren0 C id = none := fun id hid => if_neg (by have : C.m0.next = C.ng := rfl; omega)
  have hargs : VRs (ren0 C) (old W) W [a, .int .i64 n1] [v0, .int .i64 n1] := by
    refine ⟨rfl, fun j x v hx hv => ?_⟩
    match j with
    | 0 => simp at hx hv; subst hx hv; exact .vi _ _ hva
    | 1 => simp at hx hv; subst hx hv; exact .vi _ _ (.int _ _)
    | j + 2 => simp at hx
  refine (hs (ren0 C) (old W) W _ hm hren hgl hfr hargs).mono fun e W' hp => ?_
  obtain ⟨v, ρ', I', rfl, hv', hb⟩ := m0_below hp
  obtain rfl := hv'.bool_inv
  refine ⟨_, rfl, ?_⟩
  have hlt : ∀ x ∈ p0 ++ (p1 ++ []), x.block < W.heap.size := fun x hx => hA0.lt x hx
  have t0 := Below.trod laidOut (by kernel_rfl) (of_decide_eq_true (by kernel_rfl)) h0 hb (fun x hx => hlt x (by simp [hx]))
  have t1 := Below.trod laidOut (by kernel_rfl) (of_decide_eq_true (by kernel_rfl)) h1 hb (fun x hx => hlt x (by simp [hx]))
  refine ⟨_, _, _, [], _, [], hW', ?_, ⟨_, _, t0, ⟨_, _, t1, rfl, rfl⟩, rfl⟩, rfl, hb.frame _, fun h => by cases h⟩
  exact trodAll_mk1 (shut_bool Try.underlying4 _)

/-- THE STATEMENT TopTuned: for every input the law returns true, and each argument reads behind the call as it read before. -/
theorem topTuned_holds : Rows.TopTunedSaid :=
  OpenClaim.holds_of_wide 3 Try.f3 rfl rfl rfl rfl rfl rfl rfl ⟨rfl, rfl, rfl, rfl, rfl⟩ rfl rfl rfl rfl rfl (by kernel_rfl) Try.func3 (by kernel_rfl)
    (of_decide_eq_true (by kernel_rfl)) (by unfold Func.isWrapper; first | (rw [if_pos (by decide +kernel)]; kernel_rfl) | (rw [if_neg (by decide +kernel)]; exact ⟨rfl, rfl⟩))
    (fun os started H enc _ => lifted os started H enc)
#print axioms topTuned_holds
end Go.Proofs.Ytmfdjipijifabab
