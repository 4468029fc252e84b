/- Part 11 of a proof in many texts, put together: definitions and lemmas. The theorem stands in the last text; no conditions. -/
import Derived.Test.YtmfdjipijifabaaDoorPart10
import Derived.LaidMore
import Derived.OpenShut
import Derived.Stop.Joined
import Derived.Test.YtmfdjipijifabaaDoorRows
section
/- From the contract of the law's function to the statement that is given: the arguments, the listed variable, the witness. -/
set_option linter.unusedVariables false
set_option linter.unusedSimpArgs false
set_option maxRecDepth 100000
namespace Go.Proofs.YtmfdjipijifabaaDoor
open Go Go.ChangeShapes Go.WideShapes Go.ChangeAt Go.WideMaps Go.WideElems Go.RowKit Go.Ab

theorem own : ownKnob Tryd.prog.godebug = none := by kernel_rfl
theorem gWindows : Tryd.prog.globalNamed "hotspot/backoff.windows" = some 0 := by kernel_rfl
theorem tWindows : (Tryd.prog.globals[0]?).map (·.type) = some 118 := by kernel_rfl
theorem laidOut : laidOutB Tryd.prog = true := by kernel_rfl
abbrev listed : List (String × DataW Unit) := [("hotspot/backoff.windows", Rows.laid_hotspot_backoff_windows)]

/-- The door's own heap meets the condition. -/
theorem door_met (os : Os) (args : Array Value) : laidMetH Tryd.prog listed ((World.doorLaid Tryd.prog 400 os).forCall (fun _ _ => 0) ⟨#[], args, []⟩).memory :=
  laidMetH_of_parts3 (fuel := 8) (laidMet_of_run' 8 (by kernel_rfl) (by kernel_rfl)) (by kernel_rfl) (by kernel_rfl)

section
variable {H : Type} {ench : TypeId × Value → H}

theorem elem_tlk {w : World} {spare : Nat → Bool} {held : Bool} : ElemOf ench Tryd.prog w spare held 58 eTlk := fun n cs x hx => by
  obtain ⟨z0, h0⟩ := field_int Tryd.underlying58 hx (i := 0) rfl Tryd.underlying3
  obtain ⟨z1, h1⟩ := field_int Tryd.underlying58 hx (i := 1) rfl Tryd.underlying3
  obtain ⟨z2, h2⟩ := field_int Tryd.underlying58 hx (i := 2) rfl Tryd.underlying3
  obtain ⟨z3, h3⟩ := field_int Tryd.underlying58 hx (i := 3) rfl Tryd.underlying3
  obtain ⟨z4, h4⟩ := field_int Tryd.underlying58 hx (i := 4) rfl Tryd.underlying3
  obtain ⟨z5, h5⟩ := field_int Tryd.underlying58 hx (i := 5) rfl Tryd.underlying3
  refine ⟨⟨z0, z1, z2, z3, z4, z5⟩, fun j c hj => ?_⟩
  match j with
  | 0 => simp [eTlk] at hj; subst hj; exact ⟨_, h0, rfl, .int _ _⟩
  | 1 => simp [eTlk] at hj; subst hj; exact ⟨_, h1, rfl, .int _ _⟩
  | 2 => simp [eTlk] at hj; subst hj; exact ⟨_, h2, rfl, .int _ _⟩
  | 3 => simp [eTlk] at hj; subst hj; exact ⟨_, h3, rfl, .int _ _⟩
  | 4 => simp [eTlk] at hj; subst hj; exact ⟨_, h4, rfl, .int _ _⟩
  | 5 => simp [eTlk] at hj; subst hj; exact ⟨_, h5, rfl, .int _ _⟩
  | j + 6 => simp [eTlk] at hj

/-- Two integers in a struct that reads as a known datum. -/
theorem pair_of {w : World} {spare : Nat → Bool} {held : Bool} {n : Nat} {cs : List Value} {a b : Int} {p : List MemPlace} (h : DataW.trod ench Tryd.prog w 0 spare held n 117 cs = some (.agg [.lit (.int .i64 a), .lit (.int .i64 b)], p)) : cs[0]? = some (.int .i64 a) ∧ cs[1]? = some (.int .i64 b) := by
  obtain ⟨y0, y1, m, e, hl, h0, h1⟩ := trod_struct2 Tryd.underlying117 h
  obtain ⟨z0, k0, rfl, _⟩ := DataW.trod_int Tryd.underlying3 h0
  obtain ⟨z1, k1, rfl, _⟩ := DataW.trod_int Tryd.underlying3 h1
  simp at e
  obtain ⟨⟨rfl, rfl⟩, _⟩ := e
  have c3 : Tryd.prog.cellsOf 3 = 1 := by kernel_rfl
  have c117 : Tryd.prog.cellsOf 117 = 2 := by kernel_rfl
  rw [c3] at k0 k1
  rw [c117] at hl
  match cs, hl with
  | [u, v], _ => simp at k0 k1; subst k0; subst k1; exact ⟨rfl, rfl⟩
end

/-- What the condition says of the listed variable's block. -/
theorem glob_ok {w : World} (h : laidMetH Tryd.prog listed w) : GlobOK C (old w) w := by
  rw [MakeChecks.laidMetH_plain _ _ _ (by kernel_rfl)] at h
  obtain ⟨ps, ⟨g0, t0, cs0, f0, p0, q0, hg0, ht0, hv0, hd0, _, _⟩, _, _⟩ := h
  obtain rfl := Option.some.inj (gWindows.symm.trans hg0)
  obtain rfl := Option.some.inj (tWindows.symm.trans ht0)
  obtain ⟨xs, m, _, hx, hlen, hn, hall⟩ := DataW.trod_array Tryd.underlying118 hd0
  have c117 : Tryd.prog.cellsOf 117 = 2 := by kernel_rfl
  have c118 : Tryd.prog.cellsOf 118 = 8 := by kernel_rfl
  rw [c118] at hlen
  rw [c117] at hall
  match xs, hn with
  | [x0, x1, x2, x3], _ =>
    simp [Rows.laid_hotspot_backoff_windows] at hx
    obtain ⟨⟨e0, e1, e2, e3⟩, _⟩ := hx
    have a0 := hall 0 (by decide)
    have a1 := hall 1 (by decide)
    have a2 := hall 2 (by decide)
    have a3 := hall 3 (by decide)
    obtain ⟨x0d, x0p⟩ := x0
    obtain ⟨x1d, x1p⟩ := x1
    obtain ⟨x2d, x2p⟩ := x2
    obtain ⟨x3d, x3p⟩ := x3
    simp only [] at e0 e1 e2 e3
    subst e0 e1 e2 e3
    have b0 := pair_of a0
    have b1 := pair_of a1
    have b2 := pair_of a2
    have b3 := pair_of a3
    simp only [World.var?, gWindows, Option.bind_some] at hv0
    split at hv0
    case h_2 => cases hv0
    rename_i cur e fr hh
    cases hv0
    intro g hg hne
    have hg0 : g = 0 := by
      have : g < 1 := hg
      omega
    subst hg0
    refine ⟨(Array.getElem?_eq_some_iff.1 hh).1, cs0, e, fr, hh, ?_, fun off a ha => ?_⟩
    · show 8 ≤ cs0.size
      have : cs0.toList.length = cs0.size := by simp
      omega
    · have ha' : windows[off]? = some a := ha
      have get : ∀ j : Nat, cs0[j]? = cs0.toList[j]? := fun j => (Array.getElem?_toList).symm
      rw [get]
      simp [List.getElem?_take, List.getElem?_drop] at b0 b1 b2 b3 ⊢
      match off with
      | 0 => simp [windows] at ha'; subst ha'; exact ⟨_, b0.1, rfl, .int _ _⟩
      | 1 => simp [windows] at ha'; subst ha'; exact ⟨_, b0.2, rfl, .int _ _⟩
      | 2 => simp [windows] at ha'; subst ha'; exact ⟨_, b1.1, rfl, .int _ _⟩
      | 3 => simp [windows] at ha'; subst ha'; exact ⟨_, b1.2, rfl, .int _ _⟩
      | 4 => simp [windows] at ha'; subst ha'; exact ⟨_, b2.1, rfl, .int _ _⟩
      | 5 => simp [windows] at ha'; subst ha'; exact ⟨_, b2.2, rfl, .int _ _⟩
      | 6 => simp [windows] at ha'; subst ha'; exact ⟨_, b3.1, rfl, .int _ _⟩
      | 7 => simp [windows] at ha'; subst ha'; exact ⟨_, b3.2, rfl, .int _ _⟩
      | j + 8 => simp [windows] at ha'

/-- No contract is taken from elsewhere. -/
theorem ext_ok : ExtOK C := fun f g h => by
  simp only [C] at h
  split at h
  · cases h
  · split at h <;> cases h

theorem lifted (os : Os) (started : os.Started) (H : Type) (enc : TypeId × Value → H) :
    ReturnsInHanded {} Tryd.checked os 3 .any (fun w args => (Rows.topSlotsSpec.pre enc Tryd.prog Tryd.f3 [] false w args ∧ laidMetH Tryd.prog listed w) ∧ sizedMet enc Tryd.prog Tryd.f3 (OpenSpec.ofChange Rows.topSlotsSpec) false w args)
      (Rows.topSlotsSpec.post enc Tryd.prog Tryd.f3 false true false false) := by
  refine returnsInHanded_of_change_and (C := Tryd.checked) (X := fun w _ => laidMetH Tryd.prog listed w) (fun _ _ _ hh h => h.of_heap hh) own started (by kernel_rfl) Tryd.func3
    (ChangeSpec.witness_shaped (enc := enc) (C := Tryd.checked) (os := os) (X := fun w _ => laidMetH Tryd.prog listed w) false (World.doorLaid Tryd.prog 400 os) #[.slice none 0 0, .slice none 0 0, .bool false, .int .i64 0, .int .i64 0, .slice none 0 0] 8 rfl (World.shaped_of_RefB (by kernel_rfl) (by kernel_rfl)) (by kernel_rfl) (by kernel_rfl) (by kernel_rfl) (door_met os _)) ?_
  intro W base args ds gs before hval0 hW _ _ hL _
  have hval : ∀ (j : Nat) t v, Tryd.f3.params[j]? = some t → args[j]? = some v → Value.okWide Tryd.prog W .any base t v := hval0
  have hW' := hW
  obtain ⟨p, q, hA0, hV, rfl, hfz, hnd⟩ := hW
  obtain ⟨rfl, rfl⟩ := trodVars_none hV
  have hA : DataW.TrodAll enc Tryd.prog W 0 (fun _ => true) true Tryd.f3.params.toList args.toList ds p := hA0
  rw [Tryd.params3] at hA hval
  obtain ⟨v0, r0, d0, s0, p0, q0, hr0, rfl, rfl, h0, hA⟩ := trodAll_cons hA
  obtain ⟨v1, r1, d1, s1, p1, q1, rfl, rfl, rfl, h1, hA⟩ := trodAll_cons hA
  obtain ⟨v2, r2, d2, s2, p2, q2, rfl, rfl, rfl, h2, hA⟩ := trodAll_cons hA
  obtain ⟨v3, r3, d3, s3, p3, q3, rfl, rfl, rfl, h3, hA⟩ := trodAll_cons hA
  obtain ⟨v4, r4, d4, s4, p4, q4, rfl, rfl, rfl, h4, hA⟩ := trodAll_cons hA
  obtain ⟨v5, r5, d5, s5, p5, q5, rfl, rfl, rfl, h5, hA⟩ := trodAll_cons hA
  obtain ⟨rfl, rfl, rfl⟩ := trodAll_nil hA
  obtain ⟨av⟩ := args
  simp only at hr0
  subst hr0
  obtain ⟨b2, rfl, _, _⟩ := open_bool Tryd.underlying4 (hval 2 4 v2 rfl rfl) h2
  obtain ⟨n3, rfl, _⟩ := open_int Tryd.underlying3 (hval 3 3 v3 rfl rfl) h3
  obtain ⟨n4, rfl, _⟩ := open_int Tryd.underlying3 (hval 4 3 v4 rfl rfl) h4
  obtain ⟨l, a, hl, hva⟩ := sl_of_trod Tryd.underlying22 (show Tryd.prog.cellsOf 58 = 6 by kernel_rfl) (by decide) eTlk_len elem_tlk (hval 0 22 v0 rfl rfl) h0
  obtain ⟨hd, hv, hh, hvh⟩ := sl_of_trod Tryd.underlying23 (show Tryd.prog.cellsOf 4 = 1 by kernel_rfl) (by decide) eBool_len (elem_bool Tryd.underlying4) (hval 1 23 v1 rfl rfl) h1
  obtain ⟨dr, dv, hdr, hvd⟩ := sl_of_trod Tryd.underlying24 (show Tryd.prog.cellsOf 3 = 1 by kernel_rfl) (by decide) eInt_len (elem_int Tryd.underlying3) (hval 5 24 v5 rfl rfl) h5
  have hc := cCall_le C T 3001 _ _ _ _ (c3 3001 (Nat.le_refl _) a hv dv l hd dr hl hh hdr b2 n3 n4 C.m0)
  obtain ⟨_, _, hs⟩ := aCall_sound ext_ok 3001 _ _ _ _ _ hc
  have hgl := glob_ok hL
  have hm := m0_mem hgl (fun b hb => hb)
  have hren : ∀ g, g < C.ng → ren0 C g = some (g, 0) := fun g hg => if_pos hg
  have hfr : ∀ id, C.m0.next ≤ id → ren0 C id = none := fun id hid => if_neg (by have : C.m0.next = C.ng := rfl; omega)
  have hargs : VRs (ren0 C) (old W) W [a, hv, .bool b2, .int .i64 n3, .int .i64 n4, dv] [v0, v1, .bool b2, .int .i64 n3, .int .i64 n4, v5] := by
    refine ⟨rfl, fun j x v hx hv => ?_⟩
    match j with
    | 0 => simp at hx hv; subst hx hv; exact .vi _ _ hva
    | 1 => simp at hx hv; subst hx hv; exact .vi _ _ hvh
    | 2 => simp at hx hv; subst hx hv; exact .vi _ _ (.bool _)
    | 3 => simp at hx hv; subst hx hv; exact .vi _ _ (.int _ _)
    | 4 => simp at hx hv; subst hx hv; exact .vi _ _ (.int _ _)
    | 5 => simp at hx hv; subst hx hv; exact .vi _ _ hvd
    | j + 6 => simp at hx
  refine (hs (ren0 C) (old W) W _ hm hren hgl hfr hargs).mono fun e W' hp => ?_
  obtain ⟨v, ρ', I', rfl, hv', hb⟩ := m0_below hp
  obtain rfl := hv'.bool_inv
  refine ⟨_, rfl, ?_⟩
  have hlt : ∀ x ∈ p0 ++ (p1 ++ (p2 ++ (p3 ++ (p4 ++ (p5 ++ []))))), x.block < W.heap.size := fun x hx => hA0.lt x hx
  have t0 := Below.trod laidOut (by kernel_rfl) (of_decide_eq_true (by kernel_rfl)) h0 hb (fun x hx => hlt x (by simp [hx]))
  have t1 := Below.trod laidOut (by kernel_rfl) (of_decide_eq_true (by kernel_rfl)) h1 hb (fun x hx => hlt x (by simp [hx]))
  have t2 := Below.trod laidOut (by kernel_rfl) (of_decide_eq_true (by kernel_rfl)) h2 hb (fun x hx => hlt x (by simp [hx]))
  have t3 := Below.trod laidOut (by kernel_rfl) (of_decide_eq_true (by kernel_rfl)) h3 hb (fun x hx => hlt x (by simp [hx]))
  have t4 := Below.trod laidOut (by kernel_rfl) (of_decide_eq_true (by kernel_rfl)) h4 hb (fun x hx => hlt x (by simp [hx]))
  have t5 := Below.trod laidOut (by kernel_rfl) (of_decide_eq_true (by kernel_rfl)) h5 hb (fun x hx => hlt x (by simp [hx]))
  refine ⟨_, _, _, [], _, [], hW', ?_, ⟨_, _, t0, ⟨_, _, t1, ⟨_, _, t2, ⟨_, _, t3, ⟨_, _, t4, ⟨_, _, t5, rfl, rfl⟩, rfl⟩, rfl⟩, rfl⟩, rfl⟩, rfl⟩, rfl, hb.frame _, fun h => by cases h⟩
  exact trodAll_mk1 (shut_bool Tryd.underlying4 _)

theorem topSlots_holds : Rows.TopSlotsSaid :=
  OpenClaim.holds_of_wide 3 Tryd.f3 rfl rfl rfl rfl rfl rfl rfl ⟨rfl, rfl, rfl, rfl, rfl⟩ rfl rfl rfl rfl rfl (by kernel_rfl) Tryd.func3 (by kernel_rfl)
    (of_decide_eq_true (by kernel_rfl)) (by unfold Func.isWrapper; first | (rw [if_pos (by decide +kernel)]; kernel_rfl) | (rw [if_neg (by decide +kernel)]; exact ⟨rfl, rfl⟩))
    (fun os started H enc _ => lifted os started H enc)

end Go.Proofs.YtmfdjipijifabaaDoor
end
