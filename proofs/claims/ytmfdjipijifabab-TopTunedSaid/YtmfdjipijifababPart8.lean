/- Part 8 of a proof in many texts, put together: definitions and lemmas. The theorem stands in the last text; no conditions. -/
import Derived.Test.YtmfdjipijifababPart7
section
/- A station sends a frame, and learns from it. -/
set_option linter.unusedVariables false
set_option linter.unusedSimpArgs false
set_option linter.unnecessarySimpa false
set_option maxRecDepth 100000
namespace Go.Proofs.Ytmfdjipijifabab
open Go.Ab

theorem ld43 (a b : AVal) (r : List AVal) (m : Mem) : loadA Try.prog 43 (.iptr (a :: b :: r)) m = some (.agg [a, b]) := load_iptr_agg (cs := [a, b]) ag43 sz43 rfl

theorem pure_args {f : FuncId} (hk : C.kind f = .pure) {k : Nat} {args args' : List AVal} {m m1 m' m'' : Mem} {r : AVal} (h : cCall C T k f args' m' = some (r, m'')) (hs : freezeL (freezeV 8) args' m' = some (args', m')) (hz : freezeL (freezeV 8) args m = some (args', m1)) :
    cCall C T k f args m = some (r, m1) := by
  cases k with
  | zero => simp [cCall] at h
  | succ k =>
    simp only [cCall, hk, hs] at h
    simp only [cCall, hk, hz]
    split at h
    · rename_i r1 m2 hb
      split at h
      · rename_i r2 m3 hf
        cases h
        simp only [hf]
      · cases h
    · cases h

/-- A call that only reads. -/
theorem reader_call {f : FuncId} (hk : C.kind f = .reader) {k : Nat} {args args' : List AVal} {m : Mem} {r : AVal} (K : Nat) (hK : K + 1 ≤ k)
    (ha : viewL m args = some args') (hb : ∀ k, K ≤ k → fzd (cBody C (cCall C T k) (T f) k f args' C.m0) = some r) (hr : resB r = true) : cCall C T k f args m = some (r, m) := by
  obtain ⟨k, rfl⟩ : ∃ j, k = j + 1 := ⟨k - 1, by omega⟩
  have h := hb k (by omega)
  cases hc : cBody C (cCall C T k) (T f) k f args' C.m0 with
  | none => rw [hc] at h; cases h
  | some p =>
    obtain ⟨r0, m2⟩ := p
    rw [hc] at h
    cases hz : freezeV 8 r0 m2 with
    | none => simp [fzd, hz] at h
    | some q =>
      obtain ⟨r1, m3⟩ := q
      simp [fzd, hz] at h
      subst h
      simp only [cCall, hk, ha, hc, hz]
      rw [if_pos hr]

theorem c29b (k : Nat) (hk : 70 ≤ k) {v b : Int} (hb : 0 ≤ b ∧ b ≤ 2304) (c : Nat) (hc : c ≤ 1000) (s : Int) (rest : List AVal) :
    fzd (cBody C (cCall C T k) (T 29) k 29 [.iptr (eTun (tunN v b c s) ++ rest)] C.m0) = some (.tup [.int .i64 (pickN v b c : Nat), .bool true]) := by
  rw [body29]
  have hads := ratesN_ads (v := v) hb c hc
  have hlen := ratesN_len v b c
  have la : (arF b).length = 12 := by simp [arF]
  obtain ⟨ra, hra⟩ : ∃ ra, ra = AVal.imm (ratesN v b c).length ((ratesN v b c).flatMap eAR) := ⟨_, rfl⟩
  have hsl : SL eAR ra (ratesN v b c) := by rw [hra]; exact sl_imm _ _
  have g47 := fun m => c47 k (by omega) ra (ratesN v b c) c hsl hads [.agg [ra, .int .i64 c], .int .i64 0] m m (by simp [SL.fz hsl])
  obtain ⟨cx, cy, cz, h48⟩ := c48 k (by omega) ra (ratesN v b c) c hsl hads [.agg [ra, .int .i64 c]] C.m0 C.m0 (by simp [SL.fz hsl])
  have g48 : ∀ m, cCall C T k 48 [.agg [ra, .int .i64 c]] m = some (_, m) := fun m => pure_args kd48 h48 (by simp [SL.fz hsl]) (by simp [SL.fz hsl])
  obtain ⟨p, hp, hpe⟩ := best_ex v b
  have he : eTun (tunN v b c s) = [.imm (usF v).length ((usF v).flatMap eBool), .imm 12 ((arF b).flatMap eInt), .int .i64 p, .bool (anyF v 12), ra, .int .i64 c, .int .i64 c, .int .i64 (dueN v c : Nat), .int .i64 s] := by
    rw [hra]
    simp only [eTun, tunN, la, hpe]
  rw [he]
  rw [hlen] at g47
  by_cases h12 : c < 12
  · have h12' : (c : Int) < 12 := by omega
    have hmod : (c : Int) % 12 = c := Int.emod_eq_of_lt (by omega) (by omega)
    have hpk : pickN v b c = c := by simp [pickN, h12]
    rw [hpk]
    simp at g47
    rw [hmod] at g47
    simp [codeOf, Try.f29, lenA, h12', g47, ld3, ld43, load_iptr_one ag29 sz29]
  · have h12' : ¬ (c : Int) < 12 := by omega
    have hpk : pickN v b c = p := by
      unfold pickN
      rw [if_neg h12, hpe]
      rfl
    have hcb := chain_best (v := v) hb (c := c) (by omega)
    rw [hpe] at hcb
    rw [hcb] at g48
    rw [hpk]
    have hix : ∀ id, indexAddrA Try.prog 102 (.ptr id 0) (.int .i64 0) = some (.ptr id 0) := fun id => by simp [indexAddrA]
    simp [codeOf, Try.f29, lenA, h12', g48, ld3, ld43, load_iptr_one ag29 sz29, hix]

/-- What a function that reads is shown of a list of stations. -/
theorem view_tun {id n lo : Nat} {l : List Tun} {m : Mem} (h : App eTun 9 (.own id 0 n 9) l lo m) {i : Nat} (hi : i < l.length) : ∃ rest, viewL m [.ptr id (i * 9)] = some [.iptr (eTun l[i] ++ rest)] := by
  rcases h with ⟨_, h⟩ | ⟨id', e, k2, k3, k4, k5, k6⟩
  · cases h
  · cases e
    have hd : (l.flatMap eTun).drop (i * 9) = (l.drop i).flatMap eTun := flatMap_drop eTun_len l i
    have hc : cellsAt m id (i * 9) ((l.drop i).flatMap eTun).length = some ((l.drop i).flatMap eTun) := by
      refine cellsAt_of _ _ fun o ho => ?_
      have hfl := flatMap_len eTun_len (l.drop i)
      rw [hfl, List.length_drop] at ho
      have hle : i * 9 + o < l.length * 9 := by
        have : (l.length - i) * 9 = l.length * 9 - i * 9 := Nat.sub_mul _ _ _
        omega
      rw [k6 _ hle, ← hd, List.getElem?_drop]
    have hlen : ((l.drop i).flatMap eTun).length = m.siz id - i * 9 := by
      rw [flatMap_len eTun_len, List.length_drop, k5, Nat.sub_mul]
    rw [hlen] at hc
    have hst : ((l.drop i).flatMap eTun).all stillB = true := by
      rw [List.all_eq_true]
      intro a ha
      obtain ⟨x, _, hx⟩ := List.mem_flatMap.1 ha
      simp only [eTun] at hx
      simp only [List.mem_cons, List.not_mem_nil, or_false] at hx
      rcases hx with rfl | rfl | rfl | rfl | rfl | rfl | rfl | rfl | rfl <;> rfl
    have hdr : l.drop i = l[i] :: l.drop (i + 1) := List.drop_eq_getElem_cons hi
    refine ⟨(l.drop (i + 1)).flatMap eTun, ?_⟩
    simp only [viewL, viewV]
    rw [if_neg (by rw [k4]; simp), hc]
    simp only [hst, if_pos]
    rw [hdr, List.flatMap_cons]

theorem c29 (k : Nat) (hk : 71 ≤ k) {v b : Int} (hb : 0 ≤ b ∧ b ≤ 2304) (c : Nat) (hc : c ≤ 1000) (s : Int) {id n lo : Nat} {l : List Tun} {m : Mem} (h : App eTun 9 (.own id 0 n 9) l lo m) {i : Nat} (hi : i < l.length) (hli : l[i] = tunN v b c s) :
    cCall C T k 29 [.ptr id (i * 9)] m = some (.tup [.int .i64 (pickN v b c : Nat), .bool true], m) := by
  obtain ⟨rest, hv⟩ := view_tun h hi
  rw [hli] at hv
  exact reader_call kd29 70 (by omega) hv (fun k hk => c29b k hk hb c hc s rest) rfl

theorem c13b (k : Nat) (hk : 70 ≤ k) {v b : Int} (c : Nat) (hc : c ≤ 1000) (s : Int) (rest : List AVal) :
    fzd (cBody C (cCall C T k) (T 13) k 13 [.iptr (eTun (tunN v b c s) ++ rest)] C.m0) = some (.int .i64 (dueN v c : Nat)) := by
  rw [body13]
  have la : (arF b).length = 12 := by simp [arF]
  have lu : (usF v).length = 12 := by simp [usF]
  obtain ⟨ra, hra⟩ : ∃ ra, ra = AVal.imm (ratesN v b c).length ((ratesN v b c).flatMap eAR) := ⟨_, rfl⟩
  obtain ⟨bb, hbb⟩ : ∃ bb, bb = bestB (usF v) (arF b) (anyF v 12) 12 := ⟨_, rfl⟩
  obtain ⟨u, hu⟩ : ∃ u, u = AVal.imm (usF v).length ((usF v).flatMap eBool) := ⟨_, rfl⟩
  obtain ⟨aa, haa⟩ : ∃ aa, aa = AVal.imm (arF b).length ((arF b).flatMap eInt) := ⟨_, rfl⟩
  have he : eTun (tunN v b c s) = [u, aa, .int .i64 bb, .bool (anyF v 12), ra, .int .i64 c, .int .i64 c, .int .i64 (dueN v c : Nat), .int .i64 s] := by
    rw [hra, hbb, hu, haa]
    rfl
  have hsu : SL eBool u (usF v) := by rw [hu]; exact sl_imm _ _
  have hlaa : lenA Try.prog 29 aa = some (.int .i64 12) := by rw [haa, la]; simp [lenA]
  rw [he]
  obtain ⟨tl, htl⟩ : ∃ tl, tl = [u, aa, AVal.int .i64 bb, .bool (anyF v 12), ra, .int .i64 c, .int .i64 c, .int .i64 (dueN v c : Nat), .int .i64 s] ++ rest := ⟨_, rfl⟩
  have hmin : (if (12 : Int) < c then (12 : Int) else c) = ((min c 12 : Nat) : Int) := by split <;> omega
  simp [codeOf, Try.f13, hlaa, ld3, load_iptr_one ag29 sz29, hmin]
  generalize hl2 : cCode C _ _ _ (.loop _) _ = r
  obtain ⟨e, s', rfl, he', hp⟩ := loop_rule hl2 (fun q st => st.env 0 = .iptr (u :: aa :: AVal.int .i64 bb :: .bool (anyF v 12) :: ra :: .int .i64 c :: .int .i64 c :: .int .i64 (dueN v c : Nat) :: .int .i64 s :: rest) ∧ st.env 14 = .int .i64 (min c 12 : Nat) ∧ ∃ i : Nat, i + q = min c 12 ∧ st.env 15 = .int .i64 (i : Nat) ∧ st.env 3 = .int .i64 (((List.range i).filter (uF v)).length : Nat))
    (fun e st => e = .exit 0 ∧ st.env 0 = .iptr (u :: aa :: AVal.int .i64 bb :: .bool (anyF v 12) :: ra :: .int .i64 c :: .int .i64 c :: .int .i64 (dueN v c : Nat) :: .int .i64 s :: rest) ∧ st.env 3 = .int .i64 (((List.range (min c 12)).filter (uF v)).length : Nat)) (min c 12) (by omega) (by
      exact ⟨by simp, by simp, 0, by simp, by simp, by simp⟩) (by
      rintro q st ⟨e0, e14, i, hiq, e15, e3⟩
      by_cases hi : i < min c 12
      · have hi' : (i : Int) < ((min c 12 : Nat) : Int) := by omega
        have hu12 : i < (usF v).length := by omega
        have hux := SL.indexAddr (P := Try.prog) Try.underlying34 sz4 eBool_len hsu (k := .i64) hu12
        have hge : (usF v)[i] = uF v i := by simp [usF]
        have wi : IntKind.i64.wrap ((i : Int) + 1) = ((i + 1 : Nat) : Int) := IntWalk.i64_in _ (by omega)
        obtain ⟨n, hn⟩ : ∃ n, n = ((List.range i).filter (uF v)).length := ⟨_, rfl⟩
        have hnl : n ≤ i := by rw [hn]; have := List.length_filter_le (uF v) (List.range i); simpa using this
        have hsucc : ((List.range (i + 1)).filter (uF v)).length = n + if uF v i = true then 1 else 0 := by
          rw [List.range_succ, List.filter_append, List.length_append, ← hn]
          cases huf : uF v i <;> simp [huf]
        rw [← hn] at e3
        have wn : IntKind.i64.wrap ((n : Int) + 1) = ((n + 1 : Nat) : Int) := IntWalk.i64_in _ (by omega)
        rw [hge] at hux
        have hbe : ∀ x r, (eBool x ++ r) = .bool x :: r := fun _ _ => rfl
        cases huf : uF v i <;> rw [huf] at hux hsucc
        · simp [e0, e14, e15, e3, hi', hux, hbe, ld4, load_iptr_one ag34 sz34, wi]
          exact ⟨by omega, i + 1, by omega, by simp, by rw [hsucc]; simp⟩
        · simp [e0, e14, e15, e3, hi', hux, hbe, ld4, load_iptr_one ag34 sz34, wi, wn]
          exact ⟨by omega, i + 1, by omega, by simp, by rw [hsucc]; simp⟩
      · have : i = min c 12 := by omega
        subst this
        simp [e0, e14, e15, e3])
  obtain ⟨rfl, e0, e3⟩ := hp
  obtain ⟨n, hn⟩ : ∃ n, n = ((List.range (min c 12)).filter (uF v)).length := ⟨_, rfl⟩
  have hnl : n ≤ 12 := by rw [hn]; have := List.length_filter_le (uF v) (List.range (min c 12)); simp at this; omega
  rw [← hn] at e3
  have hdue : dueN v c = n + if anyF v 12 = true then c - 12 else 0 := by rw [hn]; rfl
  have w1 : IntKind.i64.wrap ((c : Int) - 12) = (c : Int) - 12 := IntWalk.i64_in _ (by omega)
  have hmax : (if 12 < (c : Int) then (c : Int) - 12 else 0) = ((c - 12 : Nat) : Int) := by split <;> omega
  have w2 : IntKind.i64.wrap ((n : Int) + ((c - 12 : Nat) : Int)) = (n : Int) + ((c - 12 : Nat) : Int) := IntWalk.i64_in _ (by omega)
  rw [hdue]
  cases ha : anyF v 12 <;> rw [ha] at e0
  · simp [e0, e3, hlaa, ld3, ld4, load_iptr_one ag29 sz29]
  · simp [e0, e3, hlaa, ld3, ld4, load_iptr_one ag29 sz29, w1, hmax, w2]

theorem c13 (k : Nat) (hk : 71 ≤ k) {v b : Int} (c : Nat) (hc : c ≤ 1000) (s : Int) {id n lo : Nat} {l : List Tun} {m : Mem} (h : App eTun 9 (.own id 0 n 9) l lo m) {i : Nat} (hi : i < l.length) (hli : l[i] = tunN v b c s) :
    cCall C T k 13 [.ptr id (i * 9)] m = some (.int .i64 (dueN v c : Nat), m) := by
  obtain ⟨rest, hv⟩ := view_tun h hi
  rw [hli] at hv
  exact reader_call kd13 70 (by omega) hv (fun k hk => c13b k hk c hc s rest) rfl

theorem c11 (k : Nat) (hk : 80 ≤ k) {v b : Int} (hb : 0 ≤ b ∧ b ≤ 2304) (c : Nat) (hc : c ≤ 900) (s : Int) (hs : 0 ≤ s ∧ s ≤ 100000000) {id n lo : Nat} {l : List Tun} {m : Mem} (h : App eTun 9 (.own id 0 n 9) l lo m) {i : Nat} (hi : i < l.length) (hli : l[i] = tunN v b c s) (hf : Fresh m) :
    ∃ m', cCall C T k 11 [.ptr id (i * 9)] m = some (.tup [.int .i64 (totF (pickN v b c) b), .bool true], m') ∧ App eTun 9 (.own id 0 n 9) (l.set i (tunN v b (c + 1) (s + totF (pickN v b c) b))) lo m' ∧ Fresh m' ∧ m.next ≤ m'.next ∧ (∀ j, j < m.next → j ≠ id → m'.cell j = m.cell j ∧ m'.mode j = m.mode j ∧ m'.siz j = m.siz j) := by
  obtain ⟨k, rfl⟩ : ∃ j, k = j + 1 := ⟨k - 1, by omega⟩
  simp only [cCall, kd11]
  rw [body11]
  obtain ⟨p, hp⟩ : ∃ p, p = pickN v b c := ⟨_, rfl⟩
  have hp12 : p < 12 := by rw [hp]; exact pickN_lt v b c
  have g29 := fun q => c29 k (by omega) hb c (by omega) s (h.grow (Grow.bump m q)) hi hli
  have hads := ratesN_ads (v := v) hb c (by omega)
  have hads2 := ratesN_ads (v := v) hb (c + 1) (by omega)
  have hlen := ratesN_len v b c
  have la : (arF b).length = 12 := by simp [arF]
  have lu : (usF v).length = 12 := by simp [usF]
  obtain ⟨uid, he1, he2, he3, he4, he5⟩ := App.get eTun_len h hi
  have hid : uid = id := by injection he1 with h; exact h.symm
  subst hid
  rw [hli] at he5
  obtain ⟨ra, hra⟩ : ∃ ra, ra = AVal.imm (ratesN v b c).length ((ratesN v b c).flatMap eAR) := ⟨_, rfl⟩
  obtain ⟨u, hu⟩ : ∃ u, u = AVal.imm (usF v).length ((usF v).flatMap eBool) := ⟨_, rfl⟩
  obtain ⟨aa, haa⟩ : ∃ aa, aa = AVal.imm (arF b).length ((arF b).flatMap eInt) := ⟨_, rfl⟩
  have hsl : SL eAR ra (ratesN v b c) := by rw [hra]; exact sl_imm _ _
  have hsu : SL eBool u (usF v) := by rw [hu]; exact sl_imm _ _
  have hsa : SL eInt aa (arF b) := by rw [haa]; exact sl_imm _ _
  have w0 : m.cell uid (i * 9) = some u := by rw [hu]; exact he5 0 (by omega)
  have w1 : m.cell uid (i * 9 + 1) = some aa := by rw [haa]; exact he5 1 (by omega)
  have w4 : m.cell uid (i * 9 + 4) = some ra := by rw [hra]; exact he5 4 (by omega)
  have w5 : m.cell uid (i * 9 + 5) = some (.int .i64 c) := he5 5 (by omega)
  have w6 : m.cell uid (i * 9 + 6) = some (.int .i64 c) := he5 6 (by omega)
  have w7 : m.cell uid (i * 9 + 7) = some (.int .i64 (dueN v c : Nat)) := he5 7 (by omega)
  have w8 : m.cell uid (i * 9 + 8) = some (.int .i64 s) := he5 8 (by omega)
  have hux := SL.indexAddr (P := Try.prog) Try.underlying34 sz4 eBool_len hsu (k := .i64) (show p < (usF v).length by omega)
  have hax := SL.indexAddr (P := Try.prog) Try.underlying29 sz3 eInt_len hsa (k := .i64) (show p < (arF b).length by omega)
  have hue : (usF v)[p]'(by omega) = uF v p := by simp [usF]
  have hae : (arF b)[p]'(by omega) = totF p b := by simp [arF]
  rw [hue] at hux
  rw [hae] at hax
  rw [← hp] at g29
  have hfr : ∀ n, m.mode (m.next + n) = .dead := fun n => hf _ (by omega)
  have n1 : ∀ n, ¬ uid = m.next + n := fun n => by omega
  obtain ⟨g, hg⟩ : ∃ g : Int, g = if uF v p = true then 1 else 0 := ⟨_, rfl⟩
  have hg01 : 0 ≤ g ∧ g ≤ 1 := by rw [hg]; split <;> omega
  have g30 := fun m => c30 k (by omega) ra (ratesN v b c) c hsl hads p (by omega) (by rw [ratesN_get']; simp [rateN]) g hg01 [.agg [ra, .int .i64 c], .int .i64 p, .int .i64 1, .int .i64 g] m m (by simp [SL.fz hsl])
  obtain ⟨l2, hl2⟩ : ∃ l2, l2 = (ratesN v b c).set p (tryF (rateN v b c p) g) := ⟨_, rfl⟩
  have hl2len : l2.length = 12 := by rw [hl2, List.length_set, hlen]
  have hl2e : (ratesN v b c).set p (tryF ((ratesN v b c)[p]'(by omega)) g) = l2 := by rw [hl2, ratesN_get']
  simp only [hl2e, hlen] at g30
  have hok2 : Ads l2 c := by
    refine ⟨by omega, fun r hr => ?_, by omega⟩
    rw [hl2] at hr
    rcases List.mem_or_eq_of_mem_set hr with h | h
    · exact hads.ok r h
    · rw [h]
      have := rateN_ok (v := v) hb c hp12
      refine ⟨this.air, by simp [tryF, rateN], by simp [tryF, rateN]; omega, this.chance, this.known⟩
  obtain ⟨rb, hrb⟩ : ∃ rb, rb = AVal.imm 12 (l2.flatMap eAR) := ⟨_, rfl⟩
  have hsl2 : SL eAR rb l2 := by rw [hrb, ← hl2len]; exact sl_imm _ _
  have g31 := fun m => c31 k (by omega) rb l2 c hsl2 hok2 (by omega) [.agg [rb, .int .i64 c]] m m (by simp [SL.fz hsl2])
  have hstep : l2.map rndF = ratesN v b (c + 1) := by rw [hl2, hg, hp]; exact rates_step c
  rw [hstep, hl2len] at g31
  rw [← hrb] at g30
  obtain ⟨rc, hrc⟩ : ∃ rc, rc = AVal.imm 12 ((ratesN v b (c + 1)).flatMap eAR) := ⟨_, rfl⟩
  rw [← hrc] at g31
  have tm := tot_most p hp12 hb
  have hdl : dueN v c ≤ 2000 := by
    unfold dueN
    have := List.length_filter_le (uF v) (List.range (min c 12))
    simp at this
    split <;> omega
  have v1 : IntKind.i64.wrap ((c : Int) + 1) = (c : Int) + 1 := IntWalk.i64_in _ (by omega)
  have v2 : IntKind.i64.wrap ((dueN v c : Nat) + g) = (dueN v c : Nat) + g := IntWalk.i64_in _ (by omega)
  have v3 : IntKind.i64.wrap (s + totF p b) = s + totF p b := IntWalk.i64_in _ (by omega)
  have hbe : ∀ x r, (eBool x ++ r) = .bool x :: r := fun _ _ => rfl
  have hie : ∀ x r, (eInt x ++ r) = .int .i64 x :: r := fun _ _ => rfl
  rw [← hp]
  have w2 : m.cell uid (i * 9 + 2) = some (.int .i64 (bestB (usF v) (arF b) (anyF v 12) 12)) := he5 2 (by omega)
  have w3 : m.cell uid (i * 9 + 3) = some (.bool (anyF v 12)) := he5 3 (by omega)
  have z4 : ¬ i * 9 + 4 ≤ i * 9 := by omega
  have z6 : ¬ i * 9 + 6 ≤ i * 9 := by omega
  have z7 : ¬ i * 9 + 7 ≤ i * 9 := by omega
  have z8 : ¬ i * 9 + 8 ≤ i * 9 := by omega
  have hen : ∀ s', eTun (tunN v b (c + 1) s') = [u, aa, .int .i64 (bestB (usF v) (arF b) (anyF v 12) 12), .bool (anyF v 12), rc, .int .i64 (c + 1 : Nat), .int .i64 (c + 1 : Nat), .int .i64 (dueN v (c + 1) : Nat), .int .i64 s'] := fun s' => by
    rw [hu, haa, hrc]
    simp only [eTun, tunN, ratesN_len]
  cases huf : uF v p <;> rw [huf] at hux hg
  · have hg0 : g = 0 := by rw [hg]; rfl
    rw [hg0] at g30 v2
    have hdue : dueN v (c + 1) = dueN v c + 0 := by rw [dueN_succ v b c, ← hp, huf]; rfl
    have v2a : IntKind.i64.wrap ((dueN v c : Nat) : Int) = ((dueN v c : Nat) : Int) := IntWalk.i64_in _ (by omega)
    simp [codeOf, Try.f11, g29, he4, w0, w1, w4, w5, w6, w7, w8, hux, hax, hbe, hie, ld3, ld4, hfr, n1, g30, g31, v1, v2, v2a, v3]
    refine ⟨?_, Fresh.put hf 29 94 (by omega) _ _, fun j hj hne => ?_⟩
    · refine App.setAt eTun_len (by omega) h hi (by simp) (by simp [upd, n1]) (by simp [upd, n1]) (fun o ho => ?_) (fun o ho => ?_)
      · have h9 : o = 0 ∨ o = 1 ∨ o = 2 ∨ o = 3 ∨ o = 4 ∨ o = 5 ∨ o = 6 ∨ o = 7 ∨ o = 8 := by omega
        rcases h9 with rfl | rfl | rfl | rfl | rfl | rfl | rfl | rfl | rfl
        · simp [n1, z4, z6, z7, z8, w0, hen, hdue]
        · simp [n1, w1, hen, hdue]
        · simp [n1, w2, hen, hdue]
        · simp [n1, w3, hen, hdue]
        · simp [n1, hen, hdue]
        · simp [n1, hen, hdue]
        · simp [n1, hen, hdue]
        · simp [n1, hen, hdue]
        · simp [n1, hen, hdue]
      · have h8 : ¬ (i * 9 + 8 ≤ o ∧ o < i * 9 + 9) := by omega
        have h7 : ¬ (i * 9 + 7 ≤ o ∧ o < i * 9 + 8) := by omega
        have h6 : ¬ (i * 9 + 6 ≤ o ∧ o < i * 9 + 7) := by omega
        have h4 : ¬ (i * 9 + 4 ≤ o ∧ o < i * 9 + 6) := by omega
        simp [n1, h8, h7, h6, h4]
    · have h1 : ¬ j = m.next + 29 := by omega
      exact ⟨by funext o; simp [hne, h1], fun e => absurd e h1, fun e => absurd e h1⟩
  · have hg0 : g = 1 := by rw [hg]; rfl
    rw [hg0] at g30 v2
    have hdue : dueN v (c + 1) = dueN v c + 1 := by rw [dueN_succ v b c, ← hp, huf]; rfl
    have v2a : IntKind.i64.wrap ((dueN v c : Nat) : Int) = ((dueN v c : Nat) : Int) := IntWalk.i64_in _ (by omega)
    simp [codeOf, Try.f11, g29, he4, w0, w1, w4, w5, w6, w7, w8, hux, hax, hbe, hie, ld3, ld4, hfr, n1, g30, g31, v1, v2, v2a, v3]
    refine ⟨?_, Fresh.put hf 30 95 (by omega) _ _, fun j hj hne => ?_⟩
    · refine App.setAt eTun_len (by omega) h hi (by simp) (by simp [upd, n1]) (by simp [upd, n1]) (fun o ho => ?_) (fun o ho => ?_)
      · have h9 : o = 0 ∨ o = 1 ∨ o = 2 ∨ o = 3 ∨ o = 4 ∨ o = 5 ∨ o = 6 ∨ o = 7 ∨ o = 8 := by omega
        rcases h9 with rfl | rfl | rfl | rfl | rfl | rfl | rfl | rfl | rfl
        · simp [n1, z4, z6, z7, z8, w0, hen, hdue]
        · simp [n1, w1, hen, hdue]
        · simp [n1, w2, hen, hdue]
        · simp [n1, w3, hen, hdue]
        · simp [n1, hen, hdue]
        · simp [n1, hen, hdue]
        · simp [n1, hen, hdue]
        · simp [n1, hen, hdue]
        · simp [n1, hen, hdue]
      · have h8 : ¬ (i * 9 + 8 ≤ o ∧ o < i * 9 + 9) := by omega
        have h7 : ¬ (i * 9 + 7 ≤ o ∧ o < i * 9 + 8) := by omega
        have h6 : ¬ (i * 9 + 6 ≤ o ∧ o < i * 9 + 7) := by omega
        have h4 : ¬ (i * 9 + 4 ≤ o ∧ o < i * 9 + 6) := by omega
        simp [n1, h8, h7, h6, h4]
    · have h1 : ¬ j = m.next + 30 := by omega
      exact ⟨by funext o; simp [hne, h1], fun e => absurd e h1, fun e => absurd e h1⟩
end Go.Proofs.Ytmfdjipijifabab
end
section
/- The scheduler: checks, copies. -/
set_option linter.unusedVariables false
set_option linter.unusedSimpArgs false
set_option linter.unnecessarySimpa false
set_option maxRecDepth 100000
namespace Go.Proofs.Ytmfdjipijifabab
open Go.Ab

structure Sh where
  (w c : Int)
  deriving DecidableEq
def eSh (r : Sh) : List AVal := [.int .i64 r.w, .int .i64 r.c]
theorem eSh_len (x : Sh) : (eSh x).length = 2 := rfl
structure Sh.ok (r : Sh) : Prop where
  w : 1 ≤ r.w ∧ r.w ≤ 16
  c : -32767 ≤ r.c ∧ r.c ≤ 1000 * r.w
structure Shs (l : List Sh) (t : Nat) : Prop where
  len : 1 ≤ l.length ∧ l.length ≤ 32
  turn : t < l.length
  ok : ∀ r ∈ l, r.ok
theorem eSh_in (x : Sh) : ∀ a ∈ eSh x, ∀ (d : Nat) m, freezeV (d + 1) a m = some (a, m) := fun a ha d m => by
  simp [eSh] at ha
  rcases ha with rfl | rfl <;> rfl

theorem c64 {a : AVal} {l : List Sh} (ha : SL eSh a l) (hll : l.length < 2 ^ 62) (p : Sh → Bool) (g : FuncId) (fs cs : List AVal) (K : Nat) (Q : Mem → Prop) (hQ : ∀ m m', Q m → Grow m m' → Q m')
    (hf : ∀ k, K ≤ k → ∀ x ∈ l, ∀ m, Q m → ∃ m', cCall C T k g (fs ++ [.agg (eSh x)] ++ cs) m = some (.bool (p x), m') ∧ Grow m m') :
    ∀ k, K + l.length + 2 ≤ k → ∀ m, Q m → ∃ m', cCall C T k 64 [a, .fn g fs cs] m = some (.int .i64 (match l.findIdx? p with | some i => (i : Int) | none => -1), m') ∧ Grow m m' := by
  intro k hk m hq
  obtain ⟨k, rfl⟩ : ∃ j, k = j + 1 := ⟨k - 1, by omega⟩
  have hla := ha.len (P := Try.prog) Try.underlying48
  simp only [cCall, kd64]
  rw [body64]
  simp [codeOf, Try.f64, hla]
  generalize hl : cCode C _ _ _ (.loop _) _ = r
  obtain ⟨e, s', rfl, he, hp⟩ := loop_rule hl (fun j s => s.env 0 = a ∧ s.env 1 = .fn g fs cs ∧ s.env 7 = .int .i64 l.length ∧ Grow m s.mem ∧ ∃ i, i + j = l.length ∧ s.env 8 = .int .i64 (i : Nat) ∧ ∀ x ∈ l.take i, p x = false)
    (fun e s => Grow m s.mem ∧ ((e = .exit 0 ∧ l.findIdx? p = none) ∨ (e = .ret ∧ ∃ i : Nat, s.env 4 = .int .i64 (i : Nat) ∧ l.findIdx? p = some i))) l.length (by omega) (by
      refine ⟨by simp, by simp, by simp, ⟨by simp, fun _ _ => rfl, fun _ _ => rfl, fun _ _ => rfl, fun h id hid => h id (by simp at hid; omega)⟩, 0, by simp, by simp, by simp⟩) (by
      rintro j s ⟨h0, h1, h7, hgr, i, hij, h8, ht⟩
      by_cases hi : i < l.length
      · have hax := ha.indexAddr (P := Try.prog) Try.underlying48 sz74 eSh_len (k := .i64) hi
        have hw : IntKind.i64.wrap ((i : Int) + 1) = ((i + 1 : Nat) : Int) := IntWalk.i64_in _ (by omega)
        obtain ⟨mm, hmm⟩ := skolem (fun m hm => hf k (by omega) l[i] (List.getElem_mem hi) m hm)
        have hcall : ∀ m, Q m → cCall C T k g (fs ++ .agg (eSh l[i]) :: cs) m = some (.bool (p l[i]), mm m) := fun m hm => by simpa using (hmm m hm).1
        have hqs : ∀ n, Q { cell := s.mem.cell, mode := s.mem.mode, siz := s.mem.siz, next := s.mem.next + n } := fun n => hQ m _ hq (hgr.trans (Grow.bump _ _))
        have hgs : ∀ n n', Grow m { cell := (mm { cell := s.mem.cell, mode := s.mem.mode, siz := s.mem.siz, next := s.mem.next + n }).cell, mode := (mm { cell := s.mem.cell, mode := s.mem.mode, siz := s.mem.siz, next := s.mem.next + n }).mode, siz := (mm { cell := s.mem.cell, mode := s.mem.mode, siz := s.mem.siz, next := s.mem.next + n }).siz, next := (mm { cell := s.mem.cell, mode := s.mem.mode, siz := s.mem.siz, next := s.mem.next + n }).next + n' } :=
          fun n n' => (hgr.trans (Grow.bump _ n)).trans ((hmm _ (hqs n)).2.trans (Grow.bump _ n'))
        cases hpx : p l[i] with
        | false =>
          simp [h0, h1, h7, h8, hi, hax, load_iptr_agg ag74 sz74 (eSh_len _), hcall, hqs, hpx, hw]
          refine ⟨by omega, hgs _ _, i + 1, by omega, by simp, fun x hx => ?_⟩
          rw [List.take_succ_eq_append_getElem hi] at hx
          rcases List.mem_append.1 hx with hx | hx
          · exact ht x hx
          · rw [List.mem_singleton.1 hx]; exact hpx
        | true =>
          simp [h0, h1, h7, h8, hi, hax, load_iptr_agg ag74 sz74 (eSh_len _), hcall, hqs, hpx, hw]
          refine ⟨hgs _ _, i, rfl, ?_⟩
          rw [List.findIdx?_eq_some_iff_getElem]
          refine ⟨hi, hpx, fun j' hj' => ?_⟩
          rw [Bool.not_eq_true]
          refine ht _ ?_
          rw [List.mem_take_iff_getElem]
          exact ⟨j', by omega, rfl⟩
      · simp [h0, h1, h7, h8, hi]
        refine ⟨hgr.trans (Grow.bump _ _), ?_⟩
        rw [List.take_of_length_le (by omega)] at ht
        exact ht)
  obtain ⟨hg, ⟨rfl, h2⟩ | ⟨rfl, i, h1, h2⟩⟩ := hp
  · simp [h2]
    exact hg.trans (Grow.bump _ _)
  · simp [h1, h2]
    exact hg

theorem c43 {a : AVal} {l : List Sh} (ha : SL eSh a l) (hll : l.length < 2 ^ 62) (p : Sh → Bool) (g : FuncId) (fs cs : List AVal) (K : Nat) (Q : Mem → Prop) (hQ : ∀ m m', Q m → Grow m m' → Q m')
    (hf : ∀ k, K ≤ k → ∀ x ∈ l, ∀ m, Q m → ∃ m', cCall C T k g (fs ++ [.agg (eSh x)] ++ cs) m = some (.bool (p x), m') ∧ Grow m m') :
    ∀ k, K + l.length + 3 ≤ k → ∀ m, Q m → ∃ m', cCall C T k 43 [a, .fn g fs cs] m = some (.bool (l.any p), m') ∧ Grow m m' := by
  intro k hk m hq
  obtain ⟨k, rfl⟩ : ∃ j, k = j + 1 := ⟨k - 1, by omega⟩
  obtain ⟨mm, hmm⟩ := skolem (c64 ha hll p g fs cs K Q hQ hf k (by omega))
  have hcall : ∀ m, Q m → cCall C T k 64 [a, .fn g fs cs] m = some _ := fun m hm => (hmm m hm).1
  have hq' : ∀ n, Q { cell := m.cell, mode := m.mode, siz := m.siz, next := m.next + n } := fun n => hQ m _ hq (Grow.bump _ _)
  simp only [cCall, kd43]
  rw [body43]
  cases hfi : l.findIdx? p with
  | none =>
    have : l.any p = false := by
      rw [List.findIdx?_eq_none_iff] at hfi
      simpa using hfi
    simp [codeOf, Try.f43, hcall, hq', hfi, this]
    exact (Grow.bump _ _).trans (hmm _ (hq' _)).2
  | some i =>
    have : l.any p = true := by
      obtain ⟨h1, h2, _⟩ := List.findIdx?_eq_some_iff_getElem.1 hfi
      exact List.any_eq_true.2 ⟨_, List.getElem_mem h1, h2⟩
    have hi : (0 : Int) ≤ i := by omega
    simp [codeOf, Try.f43, hcall, hq', hfi, this, hi]
    exact (Grow.bump _ _).trans (hmm _ (hq' _)).2


theorem c42 (k : Nat) (hk : 1 ≤ k) (r : Sh) (hr : r.ok) (m : Mem) : cCall C T k 42 [.agg (eSh r)] m = some (.bool false, m) := by
  refine pure_call kd42 0 hk (args' := [.agg (eSh r)]) (by simp [eSh]) fun k hk => ?_
  rw [body42]
  obtain ⟨a1, a2⟩ := hr.w
  obtain ⟨b1, b2⟩ := hr.c
  have w1 : IntKind.i64.wrap (1000 * r.w) = 1000 * r.w := IntWalk.i64_in _ (by omega)
  have h1 : ¬ r.w < 1 := by omega
  have h2 : ¬ (16 : Int) < r.w := by omega
  have h3 : ¬ r.c < -32767 := by omega
  have h4 : ¬ 1000 * r.w < r.c := by omega
  simp [codeOf, Try.f42, eSh, h1, h2, h3, h4, w1]

theorem c24 (k : Nat) (hk : 50 ≤ k) (a : AVal) (l : List Sh) (t : Nat) (ha : SL eSh a l) (hl : Shs l t) (args : List AVal) (m m1 : Mem) (hz : freezeL (freezeV 8) args m = some ([.agg [a, .int .i64 t]], m1)) : cCall C T k 24 args m = some (.int .i64 0, m1) := by
  refine pure_call kd24 49 hk hz fun k hk => ?_
  rw [body24]
  have hla := SL.len (P := Try.prog) Try.underlying48 ha
  obtain ⟨l1, l2⟩ := hl.len
  have h1 : ¬ (l.length : Int) < 1 := by omega
  have h2 : ¬ (32 : Int) < l.length := by omega
  have h3 : ¬ (t : Int) < 0 := by omega
  have h4 : ¬ (l.length : Int) ≤ t := by have := hl.turn; omega
  obtain ⟨mm, hmm⟩ := skolem (c43 ha (by omega) (fun _ => false) 42 [] [] 1 (fun _ => True) (fun _ _ _ _ => trivial)
    (fun k hk x hx m _ => ⟨m, by simpa using c42 k hk x (hl.ok x hx) m, Grow.refl m⟩) k (by omega))
  have g1 : ∀ m, cCall C T k 43 _ m = some _ := fun m => (hmm m trivial).1
  simp [codeOf, Try.f24, hla, h1, h2, h3, h4, g1]

theorem inf74 : ∃ i, Try.prog.info? 74 = some i ∧ i.size = 2 ∧ i.bytes = 16 := inf_of (by kernel_rfl)

theorem c44 (k : Nat) (hk : 1 ≤ k) (l : List Sh) (hl : 1 ≤ l.length ∧ l.length ≤ 2 ^ 16) (m : Mem) (hf : Fresh m) :
    ∃ m', cCall C T k 44 [.imm l.length (l.flatMap eSh)] m = some (.own (m.next + 5) 0 l.length 2, m') ∧ App eSh 2 (.own (m.next + 5) 0 l.length 2) l m.next m' ∧ Fresh m' ∧ m'.next = m.next + 7 ∧ (∀ i, i < m.next → m'.cell i = m.cell i ∧ m'.mode i = m.mode i ∧ m'.siz i = m.siz i) ∧ (∀ i, m.next ≤ i → i ≠ m.next + 5 → m'.mode i = .dead) := by
  obtain ⟨k, rfl⟩ : ∃ j, k = j + 1 := ⟨k - 1, by omega⟩
  simp only [cCall, kd44]
  rw [body44]
  have hid : idsOf (.imm l.length (l.flatMap eSh)) = [] := rfl
  obtain ⟨inf, i1, i2, i3⟩ := inf74
  have hfl' : List.length (l.flatMap eSh) = l.length * 2 := flatMap_len eSh_len l
  have hpos : 0 < l.length := by omega
  have hcap : l.length * 16 ≤ 140737488355328 ∧ l.length ≤ maxLen := by unfold maxLen; omega
  obtain ⟨R, hR⟩ : ∃ R, R = restrict m 0 [] := ⟨_, rfl⟩
  have hRn : R.next = m.next := by rw [hR]; rfl
  have hRf : ∀ n, R.mode n = .dead := fun n => by rw [hR]; simp [restrict, shown]
  have hlist : [AVal.imm l.length (l.flatMap eSh)].flatMap idsOf = [] := rfl
  have key : cBody C (cCall C T k) (T 44) k 44 [.imm l.length (l.flatMap eSh)] R = some (.own (m.next + 5) 0 l.length 2, { cell := fun i o => if i = m.next + 5 then (List.flatMap eSh l)[o]? else if i = m.next + 3 then none else R.cell i o, mode := upd (upd (upd R.mode (m.next + 3) Md.rw) (m.next + 3) Md.dead) (m.next + 5) Md.rw, siz := upd (upd R.siz (m.next + 3) 0) (m.next + 5) (l.length * 2), next := m.next + 7 }) := by
    rw [body44]
    simp [codeOf, Try.f44, hpos, hcap, buildSliceA, zeros, List.range, List.range.loop, hRf, hRn, appendA, elemsA, i1, i2, i3, hfl']
  rw [body44] at key
  simp only [C_ng, hlist]
  rw [← hR, key]
  refine ⟨_, rfl, .inr ⟨m.next + 5, rfl, by omega, by simp [unrestrict], by simp [unrestrict, upd]; intro h; omega, by simp [unrestrict, upd]; intro h; omega, fun o ho => by simp [unrestrict]; intro h; omega⟩, fun id hid => ?_, by simp [unrestrict], fun i h => ?_, fun i h h2 => ?_⟩
  · simp [unrestrict] at hid ⊢
    have q1 : ¬ id < m.next := by omega
    have q2 : ¬ id = m.next + 3 := by omega
    have q3 : ¬ id = m.next + 5 := by omega
    simp [upd, q1, q2, q3, hRf]
  · simp [unrestrict, h, shown]
  · have q1 : ¬ i < m.next := by omega
    by_cases q2 : i = m.next + 3
    · simp [unrestrict, upd, q2]; intro h; omega
    · simp [unrestrict, upd, q1, q2, h2, hRf]

/-- A station without credit. -/
def sh0 (w : Int) : Sh := ⟨w, 0⟩
theorem sh0_ok {w : Int} (h : 1 ≤ w ∧ w ≤ 16) : (sh0 w).ok := ⟨h, by simp [sh0]; omega⟩

theorem c9 (k : Nat) (hk : 60 ≤ k) (a : AVal) (l : List Int) (ha : SL eInt a l) (hl : 1 ≤ l.length ∧ l.length ≤ 16) (hx : ∀ x ∈ l, 1 ≤ x ∧ x ≤ 16) (args : List AVal) (m m1 : Mem) (hz : freezeL (freezeV 8) args m = some ([a], m1)) :
    cCall C T k 9 args m = some (.tup [.agg [.imm l.length ((l.map sh0).flatMap eSh), .int .i64 0], .int .i64 0], m1) := by
  refine pure_call kd9 59 hk hz fun k hk => ?_
  rw [body9]
  have hla := SL.len (P := Try.prog) Try.underlying29 ha
  simp [codeOf, Try.f9, hla]
  generalize hl2 : cCode C _ _ _ (.loop _) _ = r
  obtain ⟨e, s', rfl, he, hp⟩ := loop_rule hl2 (fun q s => s.env 2 = .ptr 0 0 ∧ s.env 4 = .ptr 2 0 ∧ s.env 7 = a ∧ s.env 8 = .int .i64 l.length ∧ Fresh s.mem ∧ 3 ≤ s.mem.next ∧ s.mem.mode 0 = .rw ∧ s.mem.mode 2 = .rw ∧ s.mem.cell 0 0 = some .nils ∧ s.mem.cell 0 1 = some (.int .i64 0) ∧ s.mem.cell 2 1 = some (.int .i64 0) ∧ ∃ i S, i + q = l.length ∧ s.env 9 = .int .i64 (i : Nat) ∧ s.mem.cell 2 0 = some S ∧ App eSh 2 S ((l.take i).map sh0) 3 s.mem)
    (fun e s => e = .exit 0 ∧ s.env 2 = .ptr 0 0 ∧ s.env 4 = .ptr 2 0 ∧ Fresh s.mem ∧ 3 ≤ s.mem.next ∧ s.mem.mode 0 = .rw ∧ s.mem.mode 2 = .rw ∧ s.mem.cell 0 0 = some .nils ∧ s.mem.cell 0 1 = some (.int .i64 0) ∧ s.mem.cell 2 1 = some (.int .i64 0) ∧ ∃ S, s.mem.cell 2 0 = some S ∧ App eSh 2 S (l.map sh0) 3 s.mem) l.length (by omega) (by
      refine ⟨by simp, by simp, by simp, by simp, ?_, by simp, by simp [upd], by simp [upd], by simp, by simp, by simp, 0, .nils, by simp, by simp, by simp, .inl ⟨by simp, rfl⟩⟩
      intro id hid
      simp at hid
      show upd (upd C.m0.mode 0 Md.rw) 2 Md.rw id = .dead
      rw [upd, if_neg (by omega), upd, if_neg (by omega)]
      exact m0_dead id) (by
      rintro q s ⟨e2, e4, e7, e8, hfr, hnx, m0, m2, c00, c01, c21, i, S, hiq, e9, c20, hA⟩
      by_cases hi : i < l.length
      · have hax := SL.indexAddr (P := Try.prog) Try.underlying29 sz3 eInt_len ha (k := .i64) hi
        have wi : IntKind.i64.wrap ((i : Int) + 1) = ((i + 1 : Nat) : Int) := IntWalk.i64_in _ (by omega)
        have hf : ∀ n, s.mem.mode (s.mem.next + n) = .dead := fun n => hfr _ (by omega)
        have n2 : ∀ n, ¬ 2 = s.mem.next + n := fun n => by omega
        have hie : ∀ q r, (eInt q ++ r) = .int .i64 q :: r := fun _ _ => rfl
        simp [e2, e4, e7, e8, e9, hi, hax, hie, ld3, m2, c20, hf, n2, buildSliceA, zeros, List.range, List.range.loop]
        generalize hM2 : Mem.mk _ _ _ _ = M2
        obtain ⟨inf, i1, i2, i3⟩ := inf74
        obtain ⟨m', a1, a2, a3, a4, a5⟩ := App.push (P := Try.prog) (t := 48) eSh_len Try.underlying48 i1 i2 (by omega) zc74 rfl (by omega) hA hfr (by omega) (by simp; omega) (p := 8) (v := sh0 l[i]) (M2 := M2) (by rw [← hM2]; exact Lay.alloc s.mem (eSh (sh0 l[i])) 8 _ 2 (by omega)) (by omega)
        have htk : (l.take (i + 1)).map sh0 = (l.take i).map sh0 ++ [sh0 l[i]] := by
          rw [List.take_succ_eq_append_getElem hi, List.map_append]
          rfl
        rw [← htk] at a2
        obtain ⟨x1, x2, _⟩ := a5 2 (by omega) (fun n e => by have := (app_own hA e).1; omega)
        obtain ⟨y1, y2, _⟩ := a5 0 (by omega) (fun n e => by have := (app_own hA e).1; omega)
        have z20 : m'.cell 2 0 = some S := by rw [x1]; exact c20
        have z2 : m'.mode 2 = .rw := x2.trans m2
        have z21 : m'.cell 2 1 = some (.int .i64 0) := by rw [x1]; exact c21
        have z0 : m'.mode 0 = .rw := y2.trans m0
        have z00 : m'.cell 0 0 = some .nils := by rw [y1]; exact c00
        have z01 : m'.cell 0 1 = some (.int .i64 0) := by rw [y1]; exact c01
        have hlt : (List.take i l).length = i := by simp; omega
        simp [a1, e2, e4, e7, e8, e9, z2, z20, wi]
        refine ⟨_, _, ⟨rfl, rfl⟩, ?_⟩
        have hmin : min i l.length = i := by omega
        simp [e2, e4, e7, e8, z00, z01, z21, z0, z2, hmin]
        refine ⟨by omega, Fresh.bump a4 2 _ _, by omega, i + 1, by omega, by simp, ?_⟩
        have a6 := App.same (m' := { cell := fun i_2 o => if i_2 = 2 ∧ o = 0 then [AVal.own (s.mem.next + 9) 0 (i + 1) 2][o]? else m'.cell i_2 o, mode := m'.mode, siz := m'.siz, next := m'.next + 2 }) a2 (by simp) (fun id n _ _ h3 => ⟨by funext o; exact if_neg (by omega), rfl, rfl⟩)
        simp only [List.length_map, List.length_take, hmin, Nat.add_assoc] at a6
        rw [List.map_take] at a6
        exact a6
      · have : i = l.length := by omega
        subst this
        simp [e2, e4, e7, e8, e9]
        rw [List.take_length] at hA
        exact ⟨Fresh.bump hfr _ _ _, by omega, m0, m2, c00, c01, c21, S, c20, hA.grow (Grow.bump _ _)⟩)
  obtain ⟨rfl, e2, e4, hfr, hnx, m0, m2, c00, c01, c21, S, c20, hA⟩ := hp
  have hS := App.fzd 5 hA eSh_len (fun x _ a ha m => eSh_in x a ha 5 m) (by simp; omega)
  simp only [List.length_map] at hS
  have hK := Kept.refl hA
  simp only [List.length_map] at hK
  have fz : ∀ n, freezeL (freezeV 8) [.agg [S, .int .i64 0]] { cell := s'.mem.cell, mode := s'.mem.mode, siz := s'.mem.siz, next := n } = some ([.agg [.imm l.length ((l.map sh0).flatMap eSh), .int .i64 0]], { cell := s'.mem.cell, mode := fzMd S s'.mem.mode, siz := s'.mem.siz, next := n }) := fun n => by
    have := hS { cell := s'.mem.cell, mode := s'.mem.mode, siz := s'.mem.siz, next := n } (Kept.same hK (fun _ _ _ => rfl) (fun _ _ _ h => h))
    simp [this]
  have hsl := sl_imm eSh (l.map sh0)
  rw [List.length_map] at hsl
  have g24 := fun n : Nat => c24 k (by omega) _ (l.map sh0) 0 hsl ⟨by simp; omega, by simp; omega, fun r hr => by
    obtain ⟨x, h1, rfl⟩ := List.mem_map.1 hr
    exact sh0_ok (hx x h1)⟩ _ _ _ (fz n)
  have q2 : fzMd S s'.mem.mode 2 = .rw := by rw [App.fzMd_other hA s'.mem.mode (by omega)]; exact m2
  have q0 : fzMd S s'.mem.mode 0 = .rw := by rw [App.fzMd_other hA s'.mem.mode (by omega)]; exact m0
  have hS4 := App.fzd 4 hA eSh_len (fun x _ a ha m => eSh_in x a ha 4 m) (by simp; omega)
  simp only [List.length_map] at hS4
  have hf6 := hS4 { cell := fun i o => if i = 0 ∧ o < 2 then [S, AVal.int IntKind.i64 0][o]? else s'.mem.cell i o, mode := fzMd S s'.mem.mode, siz := s'.mem.siz, next := s'.mem.next + 6 } (Kept.same hK (fun id k e => by have := (app_own hA e).1; funext o; exact if_neg (by omega)) (fun _ _ _ h => fzMd_live _ _ h))
  simp [e2, e4, m2, c20, c21, g24, q2, q0, c00, c01, hf6]
end Go.Proofs.Ytmfdjipijifabab
end
section
/- The scheduler: its wheel. -/
set_option linter.unusedVariables false
set_option linter.unusedSimpArgs false
set_option linter.unnecessarySimpa false
set_option maxRecDepth 100000
namespace Go.Proofs.Ytmfdjipijifabab
open Go.Ab

theorem ld50 (a b : AVal) (r : List AVal) (m : Mem) : loadA Try.prog 50 (.iptr (a :: b :: r)) m = some (.agg [a, b]) := load_iptr_agg (cs := [a, b]) ag50 sz50 rfl

/-- The wheel in memory: its block, and the block of its list. -/
structure WM (b lid lo : Nat) (l : List Sh) (t : Nat) (m : Mem) : Prop where
  mb : m.mode b = .rw
  c0 : m.cell b 0 = some (.own lid 0 l.length 2)
  c1 : m.cell b 1 = some (.int .i64 t)
  sb : b < m.next
  ne : b ≠ lid
  hL : App eSh 2 (.own lid 0 l.length 2) l lo m
  fresh : Fresh m
theorem WM.grow {b lid lo : Nat} {l : List Sh} {t : Nat} {m m' : Mem} (h : WM b lid lo l t m) (g : Grow m m') : WM b lid lo l t m' :=
  ⟨(g.mode b h.sb).trans h.mb, by rw [g.cell b h.sb]; exact h.c0, by rw [g.cell b h.sb]; exact h.c1, Nat.lt_of_lt_of_le h.sb g.next, h.ne, h.hL.grow g, g.dead h.fresh⟩

/-- A copy of a scheduler. -/
theorem c25 (k : Nat) (hk : 3 ≤ k) (l : List Sh) (t : Nat) (hl : Shs l t) (m : Mem) (hf : Fresh m) :
    ∃ b lid m', cCall C T k 25 [.agg [.imm l.length (l.flatMap eSh), .int .i64 t]] m = some (.ptr b 0, m') ∧ WM b lid m.next l t m' ∧ m.next ≤ b ∧ m.next ≤ m'.next ∧ (∀ i, i < m.next → m'.cell i = m.cell i ∧ m'.mode i = m.mode i ∧ m'.siz i = m.siz i) := by
  obtain ⟨k, rfl⟩ : ∃ j, k = j + 1 := ⟨k - 1, by omega⟩
  simp only [cCall, kd25]
  rw [body25]
  have hfr : ∀ n, m.mode (m.next + n) = .dead := fun n => hf _ (by omega)
  have hf0 : m.mode m.next = .dead := hfr 0
  obtain ⟨l1, l2⟩ := hl.len
  have nid : idsOf (AVal.imm l.length (l.flatMap eSh)) = [] := rfl
  simp [codeOf, Try.f25, hfr, hf0, nid, shown]
  generalize hM : Mem.mk _ _ _ _ = M
  have nM : M.next = m.next + 11 := by rw [← hM]
  have hFM : Fresh M := fun id hid => by
    rw [← hM] at hid ⊢
    simp only [] at hid
    show upd m.mode m.next Md.rw id = .dead
    rw [upd, if_neg (by omega)]
    exact hf id (by omega)
  have mM : M.mode m.next = .rw := by rw [← hM]; simp
  have c0 : M.cell m.next 0 = some (.imm l.length (l.flatMap eSh)) := by rw [← hM]; simp
  have c1 : M.cell m.next 1 = some (.int .i64 t) := by rw [← hM]; simp
  have lowM : ∀ i, i < m.next → M.cell i = m.cell i ∧ M.mode i = m.mode i ∧ M.siz i = m.siz i := fun i h => by
    have h1 : ¬ i = m.next := by omega
    rw [← hM]
    exact ⟨by funext o; simp [h1], by simp [upd, h1], by simp [upd, h1]⟩
  have dM : ∀ i, m.next < i → M.mode i = .dead := fun i h => by
    rw [← hM]
    show upd m.mode m.next Md.rw i = .dead
    rw [upd, if_neg (by omega)]
    exact hf i (by omega)
  clear hM
  obtain ⟨M3, q1, q2, q3, q4, q5, q6⟩ := c44 k (by omega) l ⟨l1, by omega⟩ M hFM
  rw [nM] at q1 q2 q4 q5 q6
  obtain ⟨u0, u1, _⟩ := q5 m.next (by omega)
  have z1 : M3.cell m.next 1 = some (.int .i64 t) := by rw [u0]; exact c1
  have zm : M3.mode m.next = .rw := u1.trans mM
  have d9 : M3.mode (m.next + 9) = .dead := (q5 _ (by omega)).2.1.trans (dM _ (by omega))
  simp [q1, z1, zm, d9, nM]
  generalize hN : Mem.mk _ _ _ _ = N
  refine ⟨m.next + 9, m.next + 16, N, by simp [shown], ⟨by rw [← hN]; simp, by rw [← hN]; simp, by rw [← hN]; simp, by rw [← hN]; show m.next + 9 < M3.next; omega, by omega, ?_, fun id hid => ?_⟩, by omega, by rw [← hN]; show m.next ≤ M3.next; omega, fun i h => ?_⟩
  · have q2' : App eSh 2 (.own (m.next + 16) 0 l.length 2) l m.next M3 := by
      rcases q2 with ⟨h, _⟩ | ⟨id, e, r2, r3, r4, r5, r6⟩
      · rw [h] at l1; simp at l1
      · exact .inr ⟨id, e, by omega, r3, r4, r5, r6⟩
    refine App.same q2' (by rw [← hN]; exact Nat.le_refl _) (fun id n e _ _ => ?_)
    cases e
    rw [← hN]
    exact ⟨by funext o; simp, by simp [upd], by simp [upd]⟩
  · rw [← hN] at hid ⊢
    simp only [] at hid
    show upd M3.mode (m.next + 9) Md.rw id = .dead
    rw [upd, if_neg (by omega)]
    exact q3 id (by omega)
  · obtain ⟨x1, x2, x3⟩ := q5 i (by omega)
    obtain ⟨y1, y2, y3⟩ := lowM i h
    have h1 : ¬ i = m.next + 9 := by omega
    rw [← hN]
    exact ⟨by funext o; simp [h1, x1, y1], by simp [upd, h1, x2, y2], by simp [upd, h1, x3, y3]⟩

/-- A list of stations that are all busy. -/
theorem c45 (k : Nat) (hk : 5 ≤ k) (a : AVal) (n : Nat) (hn : 0 < n) (ha : SL eBool a (List.replicate n true)) (args : List AVal) (m m1 : Mem) (hz : freezeL (freezeV 8) args m = some ([a, .bool true], m1)) :
    cCall C T k 45 args m = some (.int .i64 0, m1) := by
  refine pure_call kd45 4 hk hz fun k hk => ?_
  rw [body45]
  have hla := SL.len (P := Try.prog) Try.underlying34 ha
  have hlen : (List.replicate n true).length = n := by simp
  have h0 : 0 < (List.replicate n true).length := by omega
  have hax := SL.indexAddr (P := Try.prog) Try.underlying34 sz4 eBool_len ha (k := .i64) h0
  have hge : (List.replicate n true)[0]'h0 = true := by simp
  rw [hge] at hax
  rw [hlen] at hla
  have hbe : ∀ x r, (eBool x ++ r) = .bool x :: r := fun _ _ => rfl
  have hn' : (0 : Int) < n := by omega
  obtain ⟨k, rfl⟩ : ∃ j, k = j + 1 := ⟨k - 1, by omega⟩
  simp at hax
  simp [codeOf, Try.f45, hla]
  generalize hl : cCode C _ _ _ (.loop _) _ = r
  obtain ⟨e, s', rfl, he, hp⟩ := loop_rule hl (fun q s => s.env 0 = a ∧ s.env 1 = .bool true ∧ s.env 7 = .int .i64 n ∧ s.env 8 = .int .i64 0)
    (fun e s => e = .ret ∧ s.env 4 = .int .i64 0) 0 (by omega) (by simp) (by
      rintro q s ⟨e0, e1, e7, e8⟩
      simp [e0, e1, e7, e8, hn, hn', hax, hbe, ld4])
  obtain ⟨rfl, e4⟩ := hp
  simp [e4]

theorem c26 (k : Nat) (hk : 6 ≤ k) (a : AVal) (n : Nat) (hn : 0 < n) (ha : SL eBool a (List.replicate n true)) (args : List AVal) (m m1 : Mem) (hz : freezeL (freezeV 8) args m = some ([a, .bool true], m1)) :
    cCall C T k 26 args m = some (.bool true, m1) := by
  refine pure_call kd26 5 hk hz fun k hk => ?_
  rw [body26]
  have g := fun m => c45 k (by omega) a n hn ha [a, .bool true] m m (by simp [SL.fz ha])
  simp [codeOf, Try.f26, g]

theorem c28 (k : Nat) (hk : 1 ≤ k) (a : AVal) (n : Nat) (ha : SL eBool a (List.replicate n true)) (i : Nat) (hi : i < n) (id : Nat) (m : Mem) (h2 : m.mode id = .rw) (h3 : m.cell id 0 = some a) :
    cCall C T k 28 [.int .i64 i, .ptr id 0] m = some (.bool true, { cell := m.cell, mode := m.mode, siz := m.siz, next := m.next + 6 }) := by
  obtain ⟨k, rfl⟩ : ∃ j, k = j + 1 := ⟨k - 1, by omega⟩
  simp only [cCall, kd28]
  rw [body28]
  have h0 : i < (List.replicate n true).length := by simpa using hi
  have hax := SL.indexAddr (P := Try.prog) Try.underlying34 sz4 eBool_len ha (k := .i64) h0
  have hge : (List.replicate n true)[i]'h0 = true := by simp
  rw [hge] at hax
  have hbe : ∀ x r, (eBool x ++ r) = .bool x :: r := fun _ _ => rfl
  simp [codeOf, Try.f28, h2, h3, hax, hbe, ld4]

theorem c46 (k : Nat) (hk : 1 ≤ k) {b lid lo : Nat} {l : List Sh} {t : Nat} {m : Mem} (h : WM b lid lo l t m) (ht : t < l.length) (hl : l.length ≤ 32) :
    ∃ m', cCall C T k 46 [.ptr b 0] m = some (.tup [], m') ∧ WM b lid lo l ((t + 1) % l.length) m' ∧ m.next ≤ m'.next ∧ ∀ j, j < m.next → j ≠ b → m'.cell j = m.cell j ∧ m'.mode j = m.mode j ∧ m'.siz j = m.siz j := by
  obtain ⟨k, rfl⟩ : ∃ j, k = j + 1 := ⟨k - 1, by omega⟩
  simp only [cCall, kd46]
  rw [body46]
  have mb := h.mb
  have c0 := h.c0
  have c1 := h.c1
  have hla : lenA Try.prog 48 (.own lid 0 l.length 2) = some (.int .i64 l.length) := by simp [lenA]
  have w1 : IntKind.i64.wrap ((t : Int) + 1) = (t : Int) + 1 := IntWalk.i64_in _ (by omega)
  have h0 : ¬ (l.length : Int) = 0 := by omega
  have hl0 : ¬ l = [] := by intro e; rw [e] at ht; simp at ht
  have w2 : ((t : Int) + 1).tmod l.length = (((t + 1) % l.length : Nat) : Int) := by
    rw [Int.tmod_eq_emod_of_nonneg (by omega)]
    simp
  obtain ⟨t', ht'⟩ : ∃ t', t' = (t + 1) % l.length := ⟨_, rfl⟩
  rw [← ht'] at w2 ⊢
  simp [codeOf, Try.f46, mb, c0, c1, hla, w1, h0, hl0, w2]
  refine ⟨⟨h.mb, by simp [c0], by simp, Nat.lt_of_lt_of_le h.sb (Nat.le_add_right _ _), h.ne, App.same h.hL (Nat.le_add_right _ _) (fun id n e _ _ => ?_), Fresh.bump h.fresh _ _ _⟩, fun j hj hne => by funext o; simp [hne]⟩
  cases e
  exact ⟨by funext o; exact if_neg (fun e => h.ne e.1.symm), rfl, rfl⟩

/-- The turn passes from stations without credit, which get some. -/
inductive Passes : List Sh → Nat → List Sh → Nat → Prop
  | refl (l : List Sh) (t : Nat) : Passes l t l t
  | snoc (l : List Sh) (t : Nat) (l' : List Sh) (t' : Nat) (h : Passes l t l' t') (ht : t' < l'.length) (hc : l'[t'].c ≤ 0) : Passes l t (l'.set t' ⟨l'[t'].w, l'[t'].c + 1000 * l'[t'].w⟩) ((t' + 1) % l'.length)
theorem Passes.len {l l' : List Sh} {t t' : Nat} (h : Passes l t l' t') : l'.length = l.length := by
  induction h with
  | refl => rfl
  | snoc l' t' h ht hc ih => rw [List.length_set]; exact ih
theorem Passes.ok {l l' : List Sh} {t t' : Nat} (h : Passes l t l' t') (hl : Shs l t) : Shs l' t' := by
  induction h with
  | refl => exact hl
  | snoc l' t' h ht hc ih =>
    have hi := ih
    refine ⟨by rw [List.length_set]; exact hi.len, by rw [List.length_set]; exact Nat.mod_lt _ (by omega), fun r hr => ?_⟩
    rcases List.mem_or_eq_of_mem_set hr with h' | h'
    · exact hi.ok r h'
    · have := hi.ok _ (List.getElem_mem ht)
      have hw := this.w
      have hc' := this.c
      rw [h']
      exact ⟨hw, by simp only []; omega⟩
/-- How often the stations may still pass. -/
def pot : List Sh → Nat
  | [] => 0
  | s :: r => (40000 - s.c).toNat + pot r
theorem pot_set : ∀ (l : List Sh) (t : Nat) (ht : t < l.length) (s : Sh), l[t].c < s.c → s.c ≤ 40000 → pot (l.set t s) < pot l
  | x :: r, 0, _, s, h1, h2 => by
    simp only [List.set_cons_zero, pot]
    simp at h1
    omega
  | x :: r, t + 1, ht, s, h1, h2 => by
    simp only [List.set_cons_succ, pot]
    have := pot_set r t (by simpa using ht) s (by simpa using h1) h2
    omega
theorem pot_le : ∀ (l : List Sh), (∀ r ∈ l, r.ok) → pot l ≤ l.length * 80000
  | [], _ => by simp [pot]
  | x :: r, h => by
    have := pot_le r (fun y hy => h y (by simp [hy]))
    have h1 := (h x (by simp)).c
    simp only [pot, List.length_cons, Nat.add_mul]
    omega

theorem c27 (k : Nat) (hk : 2600000 ≤ k) {b lid lo : Nat} {l : List Sh} {t : Nat} (hl : Shs l t) (a : AVal) (ha : SL eBool a (List.replicate l.length true)) (id : Nat) {m : Mem} (h : WM b lid lo l t m) (hid : id < lo) (hidm : id < m.next) (hib : id ≠ b) (h2 : m.mode id = .rw) (h3 : m.cell id 0 = some a) :
    ∃ l' t' m', Passes l t l' t' ∧ (∃ ht : t' < l'.length, 0 < l'[t'].c) ∧ cCall C T k 27 [.ptr b 0, .fn 28 [] [.ptr id 0]] m = some (.int .i64 t', m') ∧ WM b lid lo l' t' m' ∧ m.next ≤ m'.next ∧ ∀ j, j < m.next → j ≠ b → j ≠ lid → m'.cell j = m.cell j ∧ m'.mode j = m.mode j ∧ m'.siz j = m.siz j := by
  obtain ⟨k, rfl⟩ : ∃ j, k = j + 1 := ⟨k - 1, by omega⟩
  simp only [cCall, kd27]
  rw [body27]
  simp [codeOf, Try.f27]
  generalize hl2 : cCode C _ _ _ (.loop _) _ = r
  obtain ⟨e, s', rfl, he, hp⟩ := loop_rule hl2 (fun q s => s.env 0 = .ptr b 0 ∧ s.env 1 = .fn 28 [] [.ptr id 0] ∧ s.env 5 = .fn 46 [.ptr b 0] [] ∧ ∃ l' t', Passes l t l' t' ∧ pot l' ≤ q ∧ WM b lid lo l' t' s.mem ∧ m.next ≤ s.mem.next ∧ ∀ j, j < m.next → j ≠ b → j ≠ lid → s.mem.cell j = m.cell j ∧ s.mem.mode j = m.mode j ∧ s.mem.siz j = m.siz j)
    (fun e s => e = .ret ∧ ∃ l' t', Passes l t l' t' ∧ (∃ ht : t' < l'.length, 0 < l'[t'].c) ∧ s.env 4 = .int .i64 t' ∧ WM b lid lo l' t' s.mem ∧ m.next ≤ s.mem.next ∧ ∀ j, j < m.next → j ≠ b → j ≠ lid → s.mem.cell j = m.cell j ∧ s.mem.mode j = m.mode j ∧ s.mem.siz j = m.siz j) 2560000 (by omega) (by
      refine ⟨by simp, by simp, by simp, l, t, .refl l t, ?_, h.grow (Grow.bump _ _), by simp, fun j _ _ _ => ⟨rfl, rfl, rfl⟩⟩
      have := pot_le l hl.ok
      have := hl.len
      have : l.length * 80000 ≤ 32 * 80000 := Nat.mul_le_mul_right _ (by omega)
      omega) (by
      rintro q s ⟨e0, e1, e5, l', t', hP, hq, hW, hnx, hsame⟩
      have hS := hP.ok hl
      have hPl := hP.len
      have ht := hS.turn
      have hok := hS.ok _ (List.getElem_mem ht)
      have hw := hok.w
      have hcc := hok.c
      have mb := hW.mb
      have c0 := hW.c0
      have c1 := hW.c1
      obtain ⟨lid', he1, he2, he3, he4, he5⟩ := App.get eSh_len hW.hL ht
      have : lid' = lid := by injection he1 with h; exact h.symm
      subst this
      have x0 : s.mem.cell lid' (t' * 2) = some (.int .i64 l'[t'].w) := he5 0 (by omega)
      have x1 : s.mem.cell lid' (t' * 2 + 1) = some (.int .i64 l'[t'].c) := he5 1 (by omega)
      have hix : indexAddrA Try.prog 48 (.own lid' 0 l'.length 2) (.int .i64 t') = some (.ptr lid' (t' * 2)) := by simp [indexAddrA, ht]
      have hil : id ≠ lid' := by omega
      obtain ⟨y3, y2, _⟩ := hsame id hidm hib hil
      have y2' : s.mem.mode id = .rw := y2.trans h2
      have y3' : s.mem.cell id 0 = some a := by rw [y3]; exact h3
      have ha' : SL eBool a (List.replicate l'.length true) := by rw [hPl]; exact ha
      have g28 := fun n => c28 k (by omega) a l'.length ha' t' ht id { cell := s.mem.cell, mode := s.mem.mode, siz := s.mem.siz, next := n } y2' y3'
      by_cases hpos : 0 < l'[t'].c
      · simp [e0, e1, e5, mb, c0, c1, hix, he4, x0, x1, g28, hpos]
        exact ⟨l', t', hP, ⟨ht, hpos⟩, rfl, hW.grow (Grow.bump _ _), by omega, hsame⟩
      · have w1 : IntKind.i64.wrap (1000 * l'[t'].w) = 1000 * l'[t'].w := IntWalk.i64_in _ (by omega)
        have w2 : IntKind.i64.wrap (l'[t'].c + 1000 * l'[t'].w) = l'[t'].c + 1000 * l'[t'].w := IntWalk.i64_in _ (by omega)
        simp [e0, e1, e5, mb, c0, c1, hix, he4, x0, x1, g28, hpos, w1, w2]
        generalize hM : Mem.mk _ _ _ _ = M
        obtain ⟨x, hx⟩ : ∃ x : Sh, x = ⟨l'[t'].w, l'[t'].c + 1000 * l'[t'].w⟩ := ⟨_, rfl⟩
        have mM : M.mode = s.mem.mode := by rw [← hM]
        have sM : M.siz = s.mem.siz := by rw [← hM]
        have nM : s.mem.next ≤ M.next := by rw [← hM]; simp
        have cM : ∀ j, j ≠ lid' → M.cell j = s.mem.cell j := fun j hj => by rw [← hM]; funext o; simp [hj]
        have hWM : WM b lid' lo (l'.set t' x) t' M := by
          refine ⟨by rw [mM]; exact mb, by rw [cM b hW.ne, List.length_set]; exact c0, by rw [cM b hW.ne]; exact c1, Nat.lt_of_lt_of_le hW.sb nM, hW.ne, ?_, fun j hj => by rw [mM]; exact hW.fresh j (by omega)⟩
          rw [List.length_set]
          refine App.setAt eSh_len (by omega) hW.hL ht nM (by rw [mM]) (by rw [sM]) (fun o ho => ?_) (fun o ho => ?_)
          · have h2 : o = 0 ∨ o = 1 := by omega
            have z : ¬ t' * 2 + 1 ≤ t' * 2 := by omega
            rcases h2 with rfl | rfl
            · rw [← hM, hx]; simp [eSh, z, x0]
            · rw [← hM, hx]; simp [eSh]
          · have z : ¬ (t' * 2 + 1 ≤ o ∧ o < t' * 2 + 2) := by omega
            rw [← hM]; simp [z]
        have hl2l : (l'.set t' x).length = l'.length := List.length_set
        obtain ⟨m', q1, q2, q3, q4⟩ := c46 k (by omega) hWM (by rw [hl2l]; exact ht) (by rw [hl2l]; exact hS.len.2)
        have hsn := Passes.snoc l t l' t' hP ht (by omega)
        rw [← hx] at hsn
        have hpt : pot (l'.set t' x) < pot l' := pot_set l' t' ht x (by rw [hx]; simp only []; omega) (by rw [hx]; simp only []; omega)
        rw [hl2l] at q2
        simp [q1, e0, e1, e5]
        refine ⟨_, _, ⟨rfl, rfl⟩, ?_⟩
        simp [e0, e1, e5]
        refine ⟨by omega, l'.set t' x, (t' + 1) % l'.length, hsn, by omega, q2, by omega, fun j hj hjb hjl => ?_⟩
        obtain ⟨a1, a2, a3⟩ := q4 j (by omega) hjb
        obtain ⟨d1, d2, d3⟩ := hsame j hj hjb hjl
        exact ⟨a1.trans ((cM j hjl).trans d1), by rw [a2, mM]; exact d2, by rw [a3, sM]; exact d3⟩)
  obtain ⟨rfl, l', t', hP, hpos, e4, hW, hnx, hsame⟩ := hp
  simp [e4]
  exact ⟨l', t', hP, hpos, s'.mem, ⟨rfl, rfl⟩, hW, hnx, hsame⟩
end Go.Proofs.Ytmfdjipijifabab
end
section
/- The scheduler: who is next; what is charged. -/
set_option linter.unusedVariables false
set_option linter.unusedSimpArgs false
set_option linter.unnecessarySimpa false
set_option maxRecDepth 100000
namespace Go.Proofs.Ytmfdjipijifabab
open Go.Ab

theorem c10 (k : Nat) (hk : 2600010 ≤ k) (l : List Sh) (t : Nat) (hl : Shs l t) (bz : AVal) (hbz : SL eBool bz (List.replicate l.length true)) :
    ∃ l' t', Passes l t l' t' ∧ (∃ ht : t' < l'.length, 0 < l'[t'].c) ∧ ∀ (args : List AVal) (m m1 : Mem), freezeL (freezeV 8) args m = some ([.agg [.imm l.length (l.flatMap eSh), .int .i64 t], bz], m1) →
      cCall C T k 10 args m = some (.tup [.int .i64 t', .agg [.imm l'.length (l'.flatMap eSh), .int .i64 t'], .int .i64 0], m1) := by
  have main : ∃ l' t', Passes l t l' t' ∧ (∃ ht : t' < l'.length, 0 < l'[t'].c) ∧ cCall C T k 10 [.agg [.imm l.length (l.flatMap eSh), .int .i64 t], bz] C.m0 = some (.tup [.int .i64 t', .agg [.imm l'.length (l'.flatMap eSh), .int .i64 t'], .int .i64 0], C.m0) := by
    obtain ⟨k, rfl⟩ : ∃ j, k = j + 1 := ⟨k - 1, by omega⟩
    have hsl := sl_imm eSh l
    obtain ⟨l1, l2⟩ := hl.len
    have hbe : bz = .imm l.length ((List.replicate l.length true).flatMap eBool) := by
      rcases hbz with ⟨h, _⟩ | h
      · have := congrArg List.length h
        simp at this
        rw [this] at l1
        simp at l1
      · simpa using h
    obtain ⟨ca, hca⟩ : ∃ ca, ca = l.flatMap eSh := ⟨_, rfl⟩
    obtain ⟨cb, hcb⟩ : ∃ cb, cb = (List.replicate l.length true).flatMap eBool := ⟨_, rfl⟩
    rw [← hcb] at hbe
    subst hbe
    rw [← hca] at hsl ⊢
    have hz0 : freezeL (freezeV 8) [.agg [.imm l.length ca, .int .i64 t], .imm l.length cb] C.m0 = some ([.agg [.imm l.length ca, .int .i64 t], .imm l.length cb], C.m0) := by simp
    simp only [cCall, kd10, hz0]
    rw [body10]
    have g24 := fun m => c24 k (by omega) (.imm l.length ca) l t hsl hl [.agg [.imm l.length ca, .int .i64 t]] m m (by simp)
    have hla := SL.len (P := Try.prog) Try.underlying48 hsl
    have hlb := SL.len (P := Try.prog) Try.underlying34 hbz
    rw [List.length_replicate] at hlb
    have g26 := fun m => c26 k (by omega) (.imm l.length cb) l.length (by omega) hbz [.imm l.length cb, .bool true] m m (by simp)
    simp [codeOf, Try.f10, g24, hla, hlb]
    generalize hM : Mem.mk _ _ _ _ = M
    have nM : M.next = 19 := by rw [← hM]
    have hFM : Fresh M := fun id hid => by
      rw [← hM] at hid ⊢
      simp only [] at hid
      show upd (upd (upd C.m0.mode 0 Md.rw) 1 Md.rw) 3 Md.rw id = .dead
      rw [upd, if_neg (by omega), upd, if_neg (by omega), upd, if_neg (by omega)]
      exact m0_dead id
    have mM : M.mode 1 = .rw ∧ M.mode 3 = .rw := by rw [← hM]; exact ⟨by simp [upd], by simp [upd]⟩
    have cM1 : M.cell 1 0 = some (.imm l.length cb) := by rw [← hM]; simp
    have cM3 : M.cell 3 0 = some .nils ∧ M.cell 3 1 = some (.int .i64 0) := by rw [← hM]; simp
    clear hM
    obtain ⟨b, lid, M2, q1, q2, q3, q4, q5⟩ := c25 k (by omega) l t hl M hFM
    rw [← hca] at q1
    rw [nM] at q2 q3 q4 q5
    have hl19 : 19 ≤ lid ∧ lid < M2.next := by
      rcases q2.hL with ⟨h, _⟩ | ⟨id, e, r1, r2, r3, r4, r5⟩
      · rw [h] at l1
        simp at l1
      · injection e with e
        subst e
        exact ⟨r1, by omega⟩
    obtain ⟨x1, x2, _⟩ := q5 1 (by omega)
    obtain ⟨y1, y2, _⟩ := q5 3 (by omega)
    have z1 : M2.mode 1 = .rw := x2.trans mM.1
    have z10 : M2.cell 1 0 = some (.imm l.length cb) := by rw [x1]; exact cM1
    simp [q1, z1, z10, g26]
    generalize hN : Mem.mk _ _ _ _ = N
    have gN : Grow M2 N := by rw [← hN]; exact Grow.bump _ _
    have sN : N.cell = M2.cell ∧ N.mode = M2.mode ∧ N.siz = M2.siz := by rw [← hN]; exact ⟨rfl, rfl, rfl⟩
    have nN : M2.next ≤ N.next := gN.next
    clear hN
    obtain ⟨l', t', m', h1, h2, h3, h4, h5, h6⟩ := c27 k (by omega) hl _ hbz 1 (q2.grow gN) (by omega) (by omega) (by omega) (by rw [sN.2.1]; exact z1) (by rw [sN.1]; exact z10)
    refine ⟨l', t', h1, h2, ?_⟩
    obtain ⟨w1, w2, w3⟩ := h6 3 (by omega) (by omega) (by omega)
    have v3 : m'.mode 3 = .rw := by rw [w2, sN.2.1, y2]; exact mM.2
    have v30 : m'.cell 3 0 = some .nils := by rw [w1, sN.1, y1]; exact cM3.1
    have v31 : m'.cell 3 1 = some (.int .i64 0) := by rw [w1, sN.1, y1]; exact cM3.2
    have mb := h4.mb
    have c0 := h4.c0
    have c1 := h4.c1
    have hb3 : ¬ b = 3 := by omega
    have h3b : ¬ 3 = b := by omega
    simp [h3, v3, v30, v31, mb, c0, c1, hb3, h3b]
    have hL := h4.hL
    have hlen' := h1.len
    have hS4 := App.fzd 4 hL eSh_len (fun x _ a ha m => eSh_in x a ha 4 m) (by omega) { cell := fun i o => if i = 3 ∧ o < 2 then [AVal.own lid 0 l'.length 2, AVal.int IntKind.i64 t'][o]? else m'.cell i o, mode := m'.mode, siz := m'.siz, next := m'.next + 8 } (Kept.same (Kept.refl hL) (fun id k e => by
      injection e with e
      subst e
      funext o
      exact if_neg (by omega)) (fun _ _ _ h => h))
    simp [hS4]
  obtain ⟨l', t', h1, h2, h3⟩ := main
  exact ⟨l', t', h1, h2, fun args m m1 hz => pure_args kd10 h3 (by simp [SL.fz (sl_imm eSh l), SL.fz hbz]) hz⟩
end Go.Proofs.Ytmfdjipijifabab
end
section
/- The scheduler: what is charged. -/
set_option linter.unusedVariables false
set_option linter.unusedSimpArgs false
set_option linter.unnecessarySimpa false
set_option maxRecDepth 100000
namespace Go.Proofs.Ytmfdjipijifabab
open Go.Ab

/-- A station that pays. -/
def pay (s : Sh) (air : Int) : Sh := ⟨s.w, s.c - air⟩

theorem c12 (k : Nat) (hk : 100 ≤ k) (l : List Sh) (t : Nat) (hl : Shs l t) (w : Nat) (hw : w < l.length) (air : Int) (ha : 1 ≤ air ∧ air ≤ 32767) (hc : 0 < l[w].c) (args : List AVal) (m m1 : Mem)
    (hz : freezeL (freezeV 8) args m = some ([.agg [.imm l.length (l.flatMap eSh), .int .i64 t], .int .i64 w, .int .i64 air], m1)) :
    cCall C T k 12 args m = some (.tup [.agg [.imm l.length ((l.set w (pay l[w] air)).flatMap eSh), .int .i64 t], .int .i64 0], m1) := by
  refine pure_call kd12 99 hk hz fun k hk => ?_
  have hsl := sl_imm eSh l
  obtain ⟨l1, l2⟩ := hl.len
  obtain ⟨ca, hca⟩ : ∃ ca, ca = l.flatMap eSh := ⟨_, rfl⟩
  rw [← hca] at hsl ⊢
  rw [body12]
  have g24 := fun m => c24 k (by omega) (.imm l.length ca) l t hsl hl [.agg [.imm l.length ca, .int .i64 t]] m m (by simp)
  have hla := SL.len (P := Try.prog) Try.underlying48 hsl
  have hax := SL.indexAddr (P := Try.prog) Try.underlying48 sz74 eSh_len hsl (k := .i64) hw
  have h1 : ¬ (w : Int) < 0 := by omega
  have h2 : ¬ (l.length : Int) ≤ w := by omega
  have h3 : ¬ air < 1 := by omega
  have h4 : ¬ 32767 < air := by omega
  have h5 : ¬ l[w].c ≤ 0 := by omega
  have hbe : ∀ (q : Sh) r, (eSh q ++ r) = .int .i64 q.w :: .int .i64 q.c :: r := fun _ _ => rfl
  rw [hbe] at hax
  simp [codeOf, Try.f12, g24, hla, hax, h1, h2, h3, h4, h5, ld3]
  generalize hM : Mem.mk _ _ _ _ = M
  have nM : M.next = 35 := by rw [← hM]
  have hFM : Fresh M := fun id hid => by
    rw [← hM] at hid ⊢
    simp only [] at hid
    show upd (upd C.m0.mode 0 Md.rw) 1 Md.rw id = .dead
    rw [upd, if_neg (by omega), upd, if_neg (by omega)]
    exact m0_dead id
  have mM : M.mode 1 = .rw := by rw [← hM]; simp [upd]
  have cM1 : M.cell 1 0 = some .nils ∧ M.cell 1 1 = some (.int .i64 0) := by rw [← hM]; simp
  clear hM
  obtain ⟨b, lid, M2, q1, q2, q3, q4, q5⟩ := c25 k (by omega) l t hl M hFM
  rw [← hca] at q1
  rw [nM] at q2 q3 q4 q5
  have hl19 : 35 ≤ lid ∧ lid < M2.next := by
    rcases q2.hL with ⟨h, _⟩ | ⟨id, e, r1, r2, r3, r4, r5⟩
    · rw [h] at l1
      simp at l1
    · injection e with e
      subst e
      exact ⟨r1, by omega⟩
  obtain ⟨x1, x2, _⟩ := q5 1 (by omega)
  have z1 : M2.mode 1 = .rw := x2.trans mM
  have z10 : M2.cell 1 0 = some .nils := by rw [x1]; exact cM1.1
  have z11 : M2.cell 1 1 = some (.int .i64 0) := by rw [x1]; exact cM1.2
  have mb := q2.mb
  have c0 := q2.c0
  have c1 := q2.c1
  obtain ⟨lid', he1, he2, he3, he4, he5⟩ := App.get eSh_len q2.hL hw
  have : lid' = lid := by injection he1 with h; exact h.symm
  subst this
  have y0 : M2.cell lid' (w * 2) = some (.int .i64 l[w].w) := he5 0 (by omega)
  have y1 : M2.cell lid' (w * 2 + 1) = some (.int .i64 l[w].c) := he5 1 (by omega)
  have hix : indexAddrA Try.prog 48 (.own lid' 0 l.length 2) (.int .i64 w) = some (.ptr lid' (w * 2)) := by simp [indexAddrA, hw]
  have hok := (hl.ok _ (List.getElem_mem hw)).c
  have hok2 := (hl.ok _ (List.getElem_mem hw)).w
  have w1 : IntKind.i64.wrap (l[w].c - air) = l[w].c - air := IntWalk.i64_in _ (by omega)
  have hb1 : ¬ b = 1 := by omega
  have hb2 : ¬ 1 = b := by omega
  have hb3 : ¬ lid' = 1 := by omega
  have hb4 : ¬ 1 = lid' := by omega
  have hbl := q2.ne
  have hlb : ¬ lid' = b := fun e => hbl e.symm
  simp [q1, z1, z10, z11, mb, c0, c1, hix, he4, y0, y1, w1, hb1, hb2, hb3, hb4, hbl, hlb]
  obtain ⟨x, hx⟩ : ∃ x, x = pay l[w] air := ⟨_, rfl⟩
  have hxw : x.w = l[w].w ∧ x.c = l[w].c - air := by rw [hx]; exact ⟨rfl, rfl⟩
  rw [← hx, ← hxw.2]
  have hL2 : App eSh 2 (.own lid' 0 l.length 2) (l.set w x) 35 { cell := fun i o => if i = lid' ∧ w * 2 + 1 ≤ o ∧ o < w * 2 + 2 then [AVal.int IntKind.i64 x.c][o - (w * 2 + 1)]? else M2.cell i o, mode := M2.mode, siz := M2.siz, next := M2.next + 20 } := by
    refine App.setAt eSh_len (by omega) q2.hL hw (by simp) rfl rfl (fun o ho => ?_) (fun o ho => ?_)
    · have h2 : o = 0 ∨ o = 1 := by omega
      have z : ¬ w * 2 + 1 ≤ w * 2 := by omega
      rcases h2 with rfl | rfl
      · simp [eSh, z, y0, hxw]
      · simp [eSh]
    · have z : ¬ (w * 2 + 1 ≤ o ∧ o < w * 2 + 2) := by omega
      simp [z]
  have hS4 := App.fzd 4 hL2 eSh_len (fun x _ a ha m => eSh_in x a ha 4 m) (by simp; omega) { cell := fun i o => if i = 1 ∧ o < 2 then [AVal.own lid' 0 l.length 2, AVal.int IntKind.i64 t][o]? else if i = lid' ∧ w * 2 + 1 ≤ o ∧ o < w * 2 + 2 then [AVal.int IntKind.i64 x.c][o - (w * 2 + 1)]? else M2.cell i o, mode := M2.mode, siz := M2.siz, next := M2.next + 20 } (Kept.same (Kept.refl hL2) (fun id k e => by
      injection e with e
      subst e
      funext o
      exact if_neg (by omega)) (fun _ _ _ h => h))
  rw [List.length_set] at hS4
  simp [hS4]
end Go.Proofs.Ytmfdjipijifabab
end
section
/- The law of shares: who has spent more than its share. -/
set_option linter.unusedVariables false
set_option linter.unusedSimpArgs false
set_option linter.unnecessarySimpa false
set_option maxRecDepth 100000
namespace Go.Proofs.Ytmfdjipijifabab
open Go.Ab

structure Fair (ws : List Int) (l : List Sh) (t : Nat) (sp : Nat → Int) (long : Int) : Prop where
  w : l.map Sh.w = ws
  c : ∃ R : Int, ∀ i (h : i < l.length), l[i].c = 1000 * l[i].w * (R + if i < t then 1 else 0) - sp i
  lo : ∀ i (h : i < l.length), -long ≤ l[i].c

theorem Fair.zero (ws : List Int) : Fair ws (ws.map sh0) 0 (fun _ => 0) 0 := by
  refine ⟨?_, ⟨0, fun i h => ?_⟩, fun i h => ?_⟩
  · rw [List.map_map]
    exact List.map_id' ws
  · simp [sh0]
  · simp [sh0]

theorem Fair.pass {ws : List Int} {l l' : List Sh} {t t' : Nat} {sp : Nat → Int} {long : Int} (h : Passes l t l' t') (hl : Shs l t) (hf : Fair ws l t sp long) : Fair ws l' t' sp long := by
  induction h with
  | refl => exact hf
  | snoc l' t' h ht hc ih =>
    have hS := h.ok hl
    obtain ⟨i1, ⟨R, i2⟩, i3⟩ := ih
    have hwt := (hS.ok _ (List.getElem_mem ht)).w
    refine ⟨?_, ?_, fun i hi => ?_⟩
    · rw [List.map_set, ← i1]
      apply List.ext_getElem?
      intro j
      by_cases hj : j = t'
      · subst hj
        rw [List.getElem?_set_self (by simpa using ht)]
        simp [ht]
      · rw [List.getElem?_set_ne (fun e => hj e.symm)]
    · have hlt : t' + 1 < l'.length ∨ t' + 1 = l'.length := by omega
      rcases hlt with hlt | hlt
      · refine ⟨R, fun i hi => ?_⟩
        rw [List.length_set] at hi
        rw [Nat.mod_eq_of_lt hlt, List.getElem_set]
        by_cases e : t' = i
        · subst e
          have := i2 t' hi
          rw [if_neg (by omega)] at this
          rw [if_pos rfl, if_pos (by omega)]
          simp only []
          rw [this]
          grind
        · rw [if_neg e, i2 i hi]
          by_cases h : i < t'
          · rw [if_pos h, if_pos (by omega)]
          · rw [if_neg h, if_neg (by omega)]
      · refine ⟨R + 1, fun i hi => ?_⟩
        rw [List.length_set] at hi
        rw [hlt, Nat.mod_self, if_neg (by omega), List.getElem_set]
        by_cases e : t' = i
        · subst e
          have := i2 t' hi
          rw [if_neg (by omega)] at this
          rw [if_pos rfl]
          simp only []
          rw [this]
          grind
        · rw [if_neg e, i2 i hi, if_pos (by omega)]
          grind
    · rw [List.length_set] at hi
      rw [List.getElem_set]
      have := i3 i hi
      by_cases e : t' = i
      · subst e
        rw [if_pos rfl]
        simp only []
        omega
      · rw [if_neg e]; exact this

theorem Fair.pay {ws : List Int} {l : List Sh} {t : Nat} {sp : Nat → Int} {long air : Int} (hf : Fair ws l t sp long) (ht : t < l.length) (hc : 0 < l[t].c) : Fair ws (l.set t (pay l[t] air)) t (upd sp t (sp t + air)) (max long air) := by
  obtain ⟨i1, ⟨R, i2⟩, i3⟩ := hf
  refine ⟨?_, ⟨R, fun i hi => ?_⟩, fun i hi => ?_⟩
  · rw [List.map_set, ← i1]
    apply List.ext_getElem?
    intro j
    by_cases hj : j = t
    · subst hj
      rw [List.getElem?_set_self (by simpa using ht)]
      simp [ht, Ytmfdjipijifabab.pay]
    · rw [List.getElem?_set_ne (fun e => hj e.symm)]
  · rw [List.length_set] at hi
    rw [List.getElem_set]
    by_cases e : t = i
    · subst e
      have := i2 t hi
      rw [if_pos rfl]
      simp only [Ytmfdjipijifabab.pay, upd, if_pos]
      rw [this]
      omega
    · rw [if_neg e, i2 i hi]
      have : ¬ i = t := fun h => e h.symm
      simp [upd, this]
  · rw [List.length_set] at hi
    rw [List.getElem_set]
    have := i3 i hi
    by_cases e : t = i
    · subst e
      rw [if_pos rfl]
      simp only [Ytmfdjipijifabab.pay]
      omega
    · rw [if_neg e]; omega

theorem Fair.law {ws : List Int} {l : List Sh} {t : Nat} {sp : Nat → Int} {long : Int} (hl : Shs l t) (hf : Fair ws l t sp long) (hlong : 0 ≤ long) {i k : Nat} (hi : i < l.length) (hk : k < l.length) :
    sp i * l[k].w - sp k * l[i].w ≤ (2000 + long) * l[i].w * l[k].w := by
  obtain ⟨i1, ⟨R, i2⟩, i3⟩ := hf
  have a1 := i2 i hi
  have a2 := i2 k hk
  have b1 := i3 i hi
  have b2 := (hl.ok _ (List.getElem_mem hk)).c
  have w1 := (hl.ok _ (List.getElem_mem hi)).w
  have w2 := (hl.ok _ (List.getElem_mem hk)).w
  obtain ⟨wi, hwi⟩ : ∃ x, x = l[i].w := ⟨_, rfl⟩
  obtain ⟨wk, hwk⟩ : ∃ x, x = l[k].w := ⟨_, rfl⟩
  obtain ⟨ci, hci⟩ : ∃ x, x = l[i].c := ⟨_, rfl⟩
  obtain ⟨ck, hck⟩ : ∃ x, x = l[k].c := ⟨_, rfl⟩
  rw [← hwi, ← hci] at a1
  rw [← hwk, ← hck] at a2
  rw [← hwi] at w1 ⊢
  rw [← hwk] at w2 ⊢
  rw [← hci] at b1
  rw [← hck, ← hwk] at b2
  obtain ⟨ei, hei⟩ : ∃ x : Int, x = if i < t then 1 else 0 := ⟨_, rfl⟩
  obtain ⟨ek, hek⟩ : ∃ x : Int, x = if k < t then 1 else 0 := ⟨_, rfl⟩
  have he : ei - ek ≤ 1 := by rw [hei, hek]; split <;> split <;> omega
  rw [← hei] at a1
  rw [← hek] at a2
  have hsi : sp i = 1000 * wi * (R + ei) - ci := by omega
  have hsk : sp k = 1000 * wk * (R + ek) - ck := by omega
  rw [hsi, hsk]
  have p1 : 0 ≤ wi * wk := Int.mul_nonneg (by omega) (by omega)
  have p2 : wi * wk * (ei - ek) ≤ wi * wk * 1 := Int.mul_le_mul_of_nonneg_left he p1
  have p3 : -ci * wk ≤ long * wk := Int.mul_le_mul_of_nonneg_right (by omega) (by omega)
  have p4 : ck * wi ≤ (1000 * wk) * wi := Int.mul_le_mul_of_nonneg_right (by omega) (by omega)
  have p5 : long * wk * 1 ≤ long * wk * wi := Int.mul_le_mul_of_nonneg_left (by omega) (Int.mul_nonneg hlong (by omega))
  grind
end Go.Proofs.Ytmfdjipijifabab
end
section
/- The law's function: the scene. -/
set_option linter.unusedVariables false
set_option linter.unusedSimpArgs false
set_option linter.unnecessarySimpa false
set_option maxRecDepth 100000
namespace Go.Proofs.Ytmfdjipijifabab
open Go.Ab

/-- The outermost loops of a code. -/
def loops : Code → List Code
  | .seq a b => loops a ++ loops b
  | .cond _ a b => loops a ++ loops b
  | .block _ c => loops c
  | .loop c => [c]
  | _ => []
noncomputable def lp (n : Nat) : Code := (loops (codeOf Try.f3)).getD n .skip

/-- A corner, as it is given. -/
structure Cor where
  (x y p w b : Int)
  deriving DecidableEq
def eCor (c : Cor) : List AVal := [.int .i64 c.x, .int .i64 c.y, .int .i64 c.p, .int .i64 c.w, .int .i64 c.b]
theorem eCor_len (x : Cor) : (eCor x).length = 5 := rfl
def radOf (c : Cor) : Rad := ⟨c.x % 20001 - 10000, c.y % 20001 - 10000, c.p % 301, 1⟩
def wOf (c : Cor) : Int := 1 + c.w % 16
def bOf (c : Cor) : Int := c.b % 2305
def rad0 : Rad := ⟨0, 0, 0, 1⟩
def scene (l : List Cor) : List Rad := rad0 :: l.map radOf
theorem scene_len (l : List Cor) : (scene l).length = l.length + 1 := by simp [scene]
theorem scene_ok (l : List Cor) (hl : l.length ≤ 6) : Air.ok (scene l) := by
  have key : ∀ r ∈ scene l, Pos r.x ∧ Pos r.y ∧ (0 ≤ r.p ∧ r.p ≤ 300) ∧ r.c = 1 := by
    intro r hr
    rcases List.mem_cons.1 hr with rfl | hr
    · exact ⟨⟨by decide, by decide⟩, ⟨by decide, by decide⟩, by decide, rfl⟩
    · obtain ⟨c, _, rfl⟩ := List.mem_map.1 hr
      simp only [radOf]
      exact ⟨⟨by omega, by omega⟩, ⟨by omega, by omega⟩, by omega, trivial⟩
  exact ⟨by rw [scene_len]; omega, by rw [scene_len]; omega, fun r hr => (key r hr).1, fun r hr => (key r hr).2.1, fun r hr => (key r hr).2.2.1, fun r hr => (key r hr).2.2.2⟩
theorem w_range (c : Cor) : 1 ≤ wOf c ∧ wOf c ≤ 16 := by unfold wOf; omega
theorem b_range (c : Cor) : 0 ≤ bOf c ∧ bOf c ≤ 2304 := by unfold bOf; omega

/-- The scene while it is laid. -/
structure Sc (p lo : Nat) (rs : List Rad) (ws : List Int) (S W : AVal) (m : Mem) : Prop where
  mp : m.mode p = .rw
  c0 : m.cell p 0 = some S
  c1 : m.cell p 1 = some .nils
  hS : App eRad 4 S rs lo m
  hW : App eInt 1 W ws lo m
  pn : lo ≤ p ∧ p < m.next
  fresh : Fresh m
  pS : ∀ n, S ≠ .own p 0 n 4
  pW : ∀ n, W ≠ .own p 0 n 1
  ne : ∀ id n n', S = .own id 0 n 4 → W ≠ .own id 0 n' 1

theorem ld31 (a b c d e : AVal) (r : List AVal) (m : Mem) : loadA Try.prog 31 (.iptr (a :: b :: c :: d :: e :: r)) m = some (.agg [a, b, c, d, e]) := load_iptr_agg (cs := [a, b, c, d, e]) ag31 sz31 rfl
theorem inf24 : ∃ i, Try.prog.info? 24 = some i ∧ i.size = 4 ∧ i.bytes = 32 := inf_of (by kernel_rfl)

set_option maxHeartbeats 8000000 in
theorem lp0 (k : Nat) (hk : 10 ≤ k) (a mn : AVal) (l : List Cor) (ha : SL eCor a l) (hl : l.length ≤ 6) (p lo : Nat) (s : St) (h0 : s.env 0 = a) (h1 : s.env 1 = mn) (h5 : s.env 5 = .ptr p 0) (h6 : s.env 6 = .nils) (h43 : s.env 43 = a) (h44 : s.env 44 = .int .i64 l.length) (h45 : s.env 45 = .int .i64 0) {S : AVal} (hs : Sc p lo [rad0] [] S .nils s.mem) :
    ∃ s', cCode C (cCall C T k) (T 3) k (.loop (lp 0)) s = some (.exit 0, s') ∧ s'.env 0 = a ∧ s'.env 1 = mn ∧ s'.env 5 = .ptr p 0 ∧ ∃ S W, s'.env 6 = W ∧ Sc p lo (scene l) (l.map wOf) S W s'.mem := by
  generalize hl2 : cCode C _ _ _ (.loop _) _ = r
  simp only [lp, loops, codeOf, Try.f3, List.nil_append, List.cons_append, List.append_nil, List.getD_cons_zero, Option.getD_some] at hl2
  obtain ⟨e, s', rfl, he, hp⟩ := loop_rule hl2 (fun q s => s.env 0 = a ∧ s.env 1 = mn ∧ s.env 5 = .ptr p 0 ∧ s.env 43 = a ∧ s.env 44 = .int .i64 l.length ∧ ∃ i S W, i + q = l.length ∧ s.env 45 = .int .i64 (i : Nat) ∧ s.env 6 = W ∧ Sc p lo (scene (l.take i)) ((l.take i).map wOf) S W s.mem)
    (fun e s => e = .exit 0 ∧ s.env 0 = a ∧ s.env 1 = mn ∧ s.env 5 = .ptr p 0 ∧ ∃ S W, s.env 6 = W ∧ Sc p lo (scene l) (l.map wOf) S W s.mem) l.length (by omega) ⟨h0, h1, h5, h43, h44, 0, S, .nils, by omega, h45, h6, hs⟩ (by
      rintro q s ⟨e0, e1, e5, e43, e44, i, S, W, hiq, e45, e6, H⟩
      by_cases hi : i < l.length
      · have hax := SL.indexAddr (P := Try.prog) Try.underlying22 sz31 eCor_len ha (k := .i64) hi
        have hi' : (i : Int) < l.length := by omega
        have wi : IntKind.i64.wrap ((i : Int) + 1) = ((i + 1 : Nat) : Int) := IntWalk.i64_in _ (by omega)
        have hie : ∀ (q : Cor) r, (eCor q ++ r) = .int .i64 q.x :: .int .i64 q.y :: .int .i64 q.p :: .int .i64 q.w :: .int .i64 q.b :: r := fun _ _ => rfl
        have hfr := H.fresh
        have hf : ∀ n, s.mem.mode (s.mem.next + n) = .dead := fun n => hfr _ (by omega)
        have hpn := H.pn
        have np : ∀ n, ¬ p = s.mem.next + n := fun n => by omega
        have np' : ∀ n, ¬ s.mem.next + n = p := fun n => by omega
        have mp := H.mp
        have c0 := H.c0
        have g4 := fun x n hn hn' => c4 k (by omega) x n hn hn'
        have w1 : IntKind.i64.wrap (l[i].x % 20001 - 10000) = l[i].x % 20001 - 10000 := IntWalk.i64_in _ (by omega)
        have w2 : IntKind.i64.wrap (l[i].y % 20001 - 10000) = l[i].y % 20001 - 10000 := IntWalk.i64_in _ (by omega)
        have w3 : IntKind.i64.wrap (1 + l[i].w % 16) = 1 + l[i].w % 16 := IntWalk.i64_in _ (by omega)
        simp [e0, e1, e5, e6, e43, e44, e45, hi', hax, hie, ld31, hf, np, np', mp, c0, g4, w1, w2, w3, callFoot, buildSliceA, zeros, List.range, List.range.loop]
        generalize hM2 : Mem.mk _ _ _ _ = M2
        have n2M : M2.next = s.mem.next + 23 := by rw [← hM2]
        have low2 : ∀ id, id < s.mem.next → M2.cell id = s.mem.cell id ∧ M2.mode id = s.mem.mode id ∧ M2.siz id = s.mem.siz id := fun id h => by
          have h1 : ¬ id = s.mem.next + 3 := by omega
          have h2 : ¬ id = s.mem.next + 19 := by omega
          rw [← hM2]
          exact ⟨by funext o; simp [h1, h2], by simp [upd, h1, h2], by simp [upd, h1, h2]⟩
        have dd2 : ∀ id, s.mem.next ≤ id → id ≠ s.mem.next + 3 → id ≠ s.mem.next + 19 → M2.mode id = .dead := fun id h h1 h2 => by
          rw [← hM2]; simp [upd, h1, h2]; exact hfr id h
        have hc3 : ∀ o, M2.cell (s.mem.next + 3) o = if o < 5 then (eCor l[i])[o]? else M2.cell (s.mem.next + 3) o := fun o => by
          split
          · rename_i h
            rw [← hM2]
            simp [h, eCor]
          · rfl
        have hc33 : M2.cell (s.mem.next + 3) 3 = some (.int .i64 l[i].w) := by rw [hc3]; simp [eCor]
        have hm3 : M2.mode (s.mem.next + 3) = .rw := by rw [← hM2]; simp [upd]
        obtain ⟨inf, i1, i2, i3⟩ := inf24
        have hS2 : App eRad 4 S (scene (l.take i)) lo M2 := App.same H.hS (by omega) (fun id n _ h _ => low2 id h)
        have hW2 : App eInt 1 W ((l.take i).map wOf) lo M2 := App.same H.hW (by omega) (fun id n _ h _ => low2 id h)
        have inS : ∀ id n, S = .own id 0 n 4 → id < s.mem.next := fun id n e => (app_own H.hS e).2
        have inW : ∀ id n, W = .own id 0 n 1 → id < s.mem.next := fun id n e => (app_own H.hW e).2
        obtain ⟨m3, a1, a2, a3, a5, a6⟩ := App.more (P := Try.prog) (t := 25) eRad_len Try.underlying25 i1 i2 (by omega) zc24 rfl (by omega) hS2 (xid := s.mem.next + 19) (new := s.mem.next + 20) (v := radOf l[i])
          (by rw [← hM2]; simp) (fun o ho => by rw [← hM2]; simp [eRad, radOf]) (by omega) (dd2 _ (by omega) (by omega) (by omega)) (by omega) (by rw [scene_len]; simp; omega)
        have hlt : (List.take i l).length = i := by simp; omega
        have htk : scene (l.take (i + 1)) = scene (l.take i) ++ [radOf l[i]] := by
          rw [List.take_succ_eq_append_getElem hi, scene, List.map_append, scene]
          rfl
        have htw : (l.take (i + 1)).map wOf = (l.take i).map wOf ++ [wOf l[i]] := by
          rw [List.take_succ_eq_append_getElem hi, List.map_append]
          rfl
        rw [← htk, scene_len, hlt] at a2
        rw [scene_len, hlt] at a1
        have hWm : App eInt 1 W ((l.take i).map wOf) lo m3 := App.same hW2 (by omega) (fun id n e h3 h4 => by
          have := inW id n e
          exact a5 id (by omega) (fun n' e' => H.ne id n' n e' e))
        obtain ⟨x1, x2, _⟩ := a5 p (by omega) H.pS
        obtain ⟨u1, u2, _⟩ := low2 p hpn.2
        obtain ⟨v1, v2, _⟩ := a5 (s.mem.next + 3) (by omega) (fun n e => by have := inS _ _ e; omega)
        have z1 : m3.mode p = .rw := x2.trans (u2.trans mp)
        have zc1 : m3.cell p 1 = some .nils := by rw [x1, u1]; exact H.c1
        have zc0 : m3.cell p 0 = some S := by rw [x1, u1]; exact c0
        have y1 : m3.mode (s.mem.next + 3) = .rw := v2.trans hm3
        have y2 : m3.cell (s.mem.next + 3) 3 = some (.int .i64 l[i].w) := by rw [v1]; exact hc33
        have n3 : m3.next = s.mem.next + 23 := by omega
        have d3 : ∀ id, s.mem.next ≤ id → id ≠ s.mem.next + 3 → id ≠ s.mem.next + 19 → id ≠ s.mem.next + 20 → m3.mode id = .dead := fun id h h1 h2 h3 => a6 id h3 (dd2 id h h1 h2)
        have d28 : m3.mode (s.mem.next + 28) = .dead := d3 _ (by omega) (by omega) (by omega) (by omega)
        have d29 : m3.mode (s.mem.next + 29) = .dead := d3 _ (by omega) (by omega) (by omega) (by omega)
        simp [a1, y1, y2, n3, d28, d29, e0, e1, e5, e6, e43, e44, e45, z1, zc0, zc1, np, g4, w3, callFoot, idsOf_own, buildSliceA, zeros, List.range, List.range.loop]
        generalize hM4 : Mem.mk _ _ _ _ = M4
        have n4 : M4.next = s.mem.next + 31 := by rw [← hM4]
        have same4 : ∀ id, id ≠ s.mem.next + 28 → id ≠ p → M4.cell id = m3.cell id := fun id h1 h2 => by rw [← hM4]; funext o; simp [h1, h2]
        have mode4 : ∀ id, id ≠ s.mem.next + 28 → M4.mode id = m3.mode id ∧ M4.siz id = m3.siz id := fun id h1 => by rw [← hM4]; simp [upd, h1]
        have pc0 : M4.cell p 0 = some (.own (s.mem.next + 20) 0 (i + 2) 4) := by
          have : ¬ p = s.mem.next + 28 := by omega
          rw [← hM4]; simp [this]
        have pc1 : M4.cell p 1 = some .nils := by
          have : ¬ p = s.mem.next + 28 := by omega
          rw [← hM4]; simp [this, zc1]
        have hS4 : App eRad 4 (.own (s.mem.next + 20) 0 (i + 2) 4) (scene (l.take (i + 1))) lo M4 := App.same a2 (by omega) (fun id n e _ _ => by
          injection e with e
          subst e
          exact ⟨same4 _ (by omega) (by omega), mode4 _ (by omega)⟩)
        have hW4 : App eInt 1 W ((l.take i).map wOf) lo M4 := App.same hWm (by omega) (fun id n e h3 h4 => by
          have := inW id n e
          have hne : id ≠ p := fun h => H.pW n (h ▸ e)
          exact ⟨same4 _ (by omega) hne, mode4 _ (by omega)⟩)
        obtain ⟨inf', j1, j2, j3⟩ := inf3
        obtain ⟨m5, b1, b2, b3, b4, b5⟩ := App.more (P := Try.prog) (t := 29) eInt_len Try.underlying29 j1 j2 (by omega) zc3 rfl (by omega) hW4 (xid := s.mem.next + 28) (new := s.mem.next + 29) (v := wOf l[i]) (by rw [← hM4]; simp) (fun o ho => by rw [← hM4]; simp [eInt, wOf]) (by omega)
          (by rw [(mode4 _ (by omega)).1]; exact d29) (by omega) (by simp; omega)
        rw [← htw] at b2
        rw [List.length_map, hlt] at b1 b2
        obtain ⟨q1, q2, _⟩ := b4 p (by omega) H.pW
        simp [b1, e0, e1, e5, e6, e43, e44, e45, wi]
        refine ⟨_, _, ⟨rfl, rfl⟩, ?_⟩
        simp [e0, e1, e5, e6, e43, e44, e45]
        refine ⟨by omega, i + 1, by omega, by simp, .own (s.mem.next + 20) 0 (i + 2) 4, ?_⟩
        have hb := Grow.bump m5 2
        have hS5 : App eRad 4 (.own (s.mem.next + 20) 0 (i + 2) 4) (scene (l.take (i + 1))) lo m5 := App.same hS4 (by omega) (fun id n e _ _ => by
          injection e with e
          subst e
          exact b4 _ (by omega) (fun n' e' => by have := inW _ _ e'; omega))
        have fr5 : Fresh m5 := fun id hid => b5 id (by omega) (by rw [(mode4 _ (by omega)).1]; exact d3 id (by omega) (by omega) (by omega) (by omega))
        refine ⟨by rw [q2, (mode4 p (by omega)).1]; exact z1, by rw [q1]; exact pc0, by rw [q1]; exact pc1, ?_, ?_, by simp only []; omega, Fresh.bump fr5 _ _ _, fun n e => ?_, fun n e => ?_, fun id n n' e e' => ?_⟩
        · have := hS5.grow hb
          exact this
        · rw [← List.map_take]
          exact b2.grow hb
        · injection e; omega
        · injection e; omega
        · injection e
          injection e'
          omega
      · have : i = l.length := by omega
        subst this
        simp [e0, e1, e5, e6, e43, e44, e45]
        rw [List.take_length] at H
        have hg := Grow.bump s.mem 1
        exact ⟨S, H.mp, H.c0, H.c1, H.hS.grow hg, H.hW.grow hg, by have := H.pn; simp only []; omega, Fresh.bump H.fresh _ _ _, H.pS, H.pW, H.ne⟩)
  obtain ⟨rfl, h⟩ := hp
  exact ⟨s', rfl, h⟩
end Go.Proofs.Ytmfdjipijifabab
end
section
/- The law's function: the stations. -/
set_option linter.unusedVariables false
set_option linter.unusedSimpArgs false
set_option linter.unnecessarySimpa false
set_option maxRecDepth 100000
namespace Go.Proofs.Ytmfdjipijifabab
open Go.Ab

noncomputable def vOf (c : Cor) : Int := levF (radOf c) rad0
noncomputable def tOf (c : Cor) : Tun := tun0 (vOf c) (bOf c)

/-- The stations while they are made. -/
structure Cs (p lo lo2 : Nat) (rs : List Rad) (ws : List Int) (S W B A : AVal) (bs : List Bool) (ts : List Tun) (m1 m : Mem) : Prop where
  mp : m.mode p = .rw
  c0 : m.cell p 0 = some S
  c1 : m.cell p 1 = some .nils
  kS : Kept 4 S rs.length m1 m
  hW : App eInt 1 W ws lo m
  hB : App eBool 1 B bs lo2 m
  hA : App eTun 9 A ts lo2 m
  nx : lo2 ≤ m.next
  fresh : Fresh m
  ne : ∀ id n n', B = .own id 0 n 1 → A ≠ .own id 0 n' 9

theorem inf45 : ∃ i, Try.prog.info? 45 = some i ∧ i.size = 9 ∧ i.bytes = 120 := inf_of (by kernel_rfl)

set_option maxHeartbeats 8000000 in
theorem lp1 (k : Nat) (hk : 30100 ≤ k) (a mn : AVal) (l : List Cor) (ha : SL eCor a l) (hl : l.length ≤ 6) (p lo lo2 : Nat) (S W B : AVal) (m1 : Mem) (H1 : Sc p lo (scene l) (l.map wOf) S W m1) (hlo : m1.next ≤ lo2)
    (s : St) (h0 : s.env 0 = a) (h1 : s.env 1 = mn) (h5 : s.env 5 = .ptr p 0) (h6 : s.env 6 = W) (h9 : s.env 9 = .nils) (h10 : s.env 10 = B) (h77 : s.env 77 = a) (h78 : s.env 78 = .int .i64 l.length) (h79 : s.env 79 = .int .i64 0)
    (hs : Cs p lo lo2 (scene l) (l.map wOf) S W B .nils (List.replicate l.length false) [] m1 s.mem) :
    ∃ s', cCode C (cCall C T k) (T 3) k (.loop (lp 1)) s = some (.exit 2, s') ∧ s'.env 0 = a ∧ s'.env 1 = mn ∧ s'.env 6 = W ∧ s'.env 10 = B ∧ ∃ A, s'.env 9 = A ∧ Cs p lo lo2 (scene l) (l.map wOf) S W B A (List.replicate l.length true) (l.map tOf) m1 s'.mem := by
  generalize hl2 : cCode C _ _ _ (.loop _) _ = r
  simp only [lp, loops, codeOf, Try.f3, List.nil_append, List.cons_append, List.append_nil, List.getD_cons_zero, List.getD_cons_succ, Option.getD_some] at hl2
  obtain ⟨e, s', rfl, he, hp⟩ := loop_rule hl2 (fun q s => s.env 0 = a ∧ s.env 1 = mn ∧ s.env 5 = .ptr p 0 ∧ s.env 6 = W ∧ s.env 10 = B ∧ s.env 77 = a ∧ s.env 78 = .int .i64 l.length ∧ ∃ i A, i + q = l.length ∧ s.env 79 = .int .i64 (i : Nat) ∧ s.env 9 = A ∧ Cs p lo lo2 (scene l) (l.map wOf) S W B A (List.replicate i true ++ List.replicate q false) ((l.take i).map tOf) m1 s.mem)
    (fun e s => e = .exit 2 ∧ s.env 0 = a ∧ s.env 1 = mn ∧ s.env 6 = W ∧ s.env 10 = B ∧ ∃ A, s.env 9 = A ∧ Cs p lo lo2 (scene l) (l.map wOf) S W B A (List.replicate l.length true) (l.map tOf) m1 s.mem) l.length (by omega) ⟨h0, h1, h5, h6, h10, h77, h78, 0, .nils, by omega, h79, h9, hs⟩ (by
      rintro q s ⟨e0, e1, e5, e6, e10, e77, e78, i, A, hiq, e79, e9, H⟩
      by_cases hi : i < l.length
      · have hax := SL.indexAddr (P := Try.prog) Try.underlying22 sz31 eCor_len ha (k := .i64) hi
        have hi' : (i : Int) < l.length := by omega
        have wi : IntKind.i64.wrap ((i : Int) + 1) = (i : Int) + 1 := IntWalk.i64_in _ (by omega)
        have hie : ∀ (q : Cor) r, (eCor q ++ r) = .int .i64 q.x :: .int .i64 q.y :: .int .i64 q.p :: .int .i64 q.w :: .int .i64 q.b :: r := fun _ _ => rfl
        have hfr := H.fresh
        have hf : ∀ n, s.mem.mode (s.mem.next + n) = .dead := fun n => hfr _ (by omega)
        have hpn := H1.pn
        have hnx := H.nx
        have np : ∀ n, ¬ p = s.mem.next + n := fun n => by omega
        have np' : ∀ n, ¬ s.mem.next + n = p := fun n => by omega
        have mp := H.mp
        have c0 := H.c0
        have c1 := H.c1
        have g4 := fun x n hn hn' => c4 k (by omega) x n hn hn'
        simp [e0, e1, e5, e6, e9, e10, e77, e78, e79, hi', hax, hie, ld31, hf, np, np', mp, c0, c1, g4, wi]
        generalize hM2 : Mem.mk _ _ _ _ = M2
        have n2M : M2.next = s.mem.next + 16 := by rw [← hM2]
        have low2 : ∀ id, id < s.mem.next → M2.cell id = s.mem.cell id ∧ M2.mode id = s.mem.mode id ∧ M2.siz id = s.mem.siz id := fun id h => by
          have h1 : ¬ id = s.mem.next + 4 := by omega
          rw [← hM2]
          exact ⟨by funext o; simp [h1], by simp [upd, h1], by simp [upd, h1]⟩
        have dd2 : ∀ id, s.mem.next ≤ id → id ≠ s.mem.next + 4 → M2.mode id = .dead := fun id h h1 => by
          rw [← hM2]; simp [upd, h1]; exact hfr id h
        have hc4 : M2.cell (s.mem.next + 4) 4 = some (.int .i64 l[i].b) := by rw [← hM2]; simp
        have hm4 : M2.mode (s.mem.next + 4) = .rw := by rw [← hM2]; simp [upd]
        clear hM2
        obtain ⟨sid, hS0, hs1, hs2, hs3, hs4⟩ := App.get eRad_len H1.hS (i := 0) (by rw [scene_len]; omega)
        have inS : ∀ id n, S = .own id 0 n 4 → id = sid := fun id n e => by rw [hS0] at e; injection e with e; exact e.symm
        have hsid : sid < s.mem.next := by omega
        have kS2 : Kept 4 S (scene l).length m1 M2 := Kept.same H.kS (fun id n e => (low2 id (by have := inS _ _ e; omega)).1) (fun id n e h => by rw [(low2 id (by have := inS _ _ e; omega)).2.1]; exact h)
        have fz := App.fzd 5 H1.hS eRad_len (fun x _ b hb m => by
          simp [eRad] at hb
          rcases hb with rfl | rfl | rfl | rfl <;> rfl) (by rw [scene_len]; omega)
        obtain ⟨F, hF⟩ : ∃ F, F = fzMd S M2.mode := ⟨_, rfl⟩
        have fz5 := fz M2 kS2
        rw [← hF] at fz5
        have hFF : fzMd S F = F := by rw [hF]; exact fzMd_idem _ _
        have hFo : ∀ id, id ≠ sid → F id = M2.mode id := fun id h => by rw [hF, hS0]; exact if_neg h
        have hFl : F sid ≠ .dead := by rw [hF, hS0]; simp [fzMd, upd]
        have fz6 : ∀ n, freezeV 7 S { cell := M2.cell, mode := F, siz := M2.siz, next := n } = some (.imm (scene l).length ((scene l).flatMap eRad), { cell := M2.cell, mode := F, siz := M2.siz, next := n }) := fun n => by
          have := fz { cell := M2.cell, mode := F, siz := M2.siz, next := n } (Kept.same kS2 (fun _ _ _ => rfl) (fun id n e h => by rw [inS _ _ e]; exact hFl))
          rw [this]
          simp only [hFF]
        have hsc := scene_ok l hl
        have hsl := scene_len l
        have hgi : (scene l)[i + 1]'(by omega) = radOf l[i] := by simp [scene]
        have hg0 : (scene l)[0]'(by omega) = rad0 := rfl
        have g5 := c5 k (scene l) hsc (i + 1) 0 (by omega) (by omega) (by omega) [.agg [S, .nils], .int .i64 ((i : Int) + 1), .int .i64 0] M2 { M2 with mode := F } (by simp [fz5, eAir])
        have g6 := fun n => c6 k (scene l) hsc (i + 1) 0 (by omega) (by omega) (by omega) (by omega) [.agg [S, .nils], .int .i64 0, .int .i64 ((i : Int) + 1)] { cell := M2.cell, mode := F, siz := M2.siz, next := n } { cell := M2.cell, mode := F, siz := M2.siz, next := n } (by simp [fz6, eAir])
        have g7 := fun n => c7 k (scene l) hsc (i + 1) 0 (by omega) (by omega) (by omega) [.agg [S, .nils], .int .i64 ((i : Int) + 1), .int .i64 0] { cell := M2.cell, mode := F, siz := M2.siz, next := n } { cell := M2.cell, mode := F, siz := M2.siz, next := n } (by simp [fz6, eAir])
        rw [hgi, hg0] at g5
        simp only [hgi, hg0] at g6 g7
        have hvr : vOf l[i] = levF (radOf l[i]) rad0 := rfl
        rw [← hvr] at g5
        simp only [← hvr] at g6 g7
        obtain ⟨v, hv⟩ : ∃ v, v = vOf l[i] := ⟨_, rfl⟩
        obtain ⟨bb, hbb⟩ : ∃ bb, bb = bOf l[i] := ⟨_, rfl⟩
        have hbr := b_range l[i]
        have g8 := c8 k (by omega) v bb (by omega)
        rw [← hv] at g5
        simp only [← hv] at g6 g7
        obtain ⟨u1, hu1⟩ : ∃ u, u = AVal.imm (tun0 v bb).us.length ((tun0 v bb).us.flatMap eBool) := ⟨_, rfl⟩
        obtain ⟨u2, hu2⟩ : ∃ u, u = AVal.imm (tun0 v bb).ar.length ((tun0 v bb).ar.flatMap eInt) := ⟨_, rfl⟩
        obtain ⟨u3, hu3⟩ : ∃ u, u = AVal.imm (tun0 v bb).rs.length ((tun0 v bb).rs.flatMap eAR) := ⟨_, rfl⟩
        have het : eTun (tun0 v bb) = [u1, u2, .int .i64 (tun0 v bb).best, .bool (tun0 v bb).any, u3, .int .i64 (tun0 v bb).n, .int .i64 (tun0 v bb).count, .int .i64 (tun0 v bb).good, .int .i64 (tun0 v bb).spent] := by rw [hu1, hu2, hu3]; rfl
        rw [het] at g8
        have hFp : F p = .rw := by rw [hFo p (fun h => H1.pS _ (h ▸ hS0)), (low2 p (by omega)).2.1]; exact mp
        have hp0 : M2.cell p 0 = some S := by rw [(low2 p (by omega)).1]; exact c0
        have hp1 : M2.cell p 1 = some .nils := by rw [(low2 p (by omega)).1]; exact c1
        have hF4 : F (s.mem.next + 4) = .rw := by rw [hFo _ (by omega)]; exact hm4
        have hFd : ∀ n, 4 < n → F (s.mem.next + n) = .dead := fun n h => by rw [hFo _ (by omega)]; exact dd2 _ (by omega) (by omega)
        have hbd : l[i].b % 2305 = bb := hbb.symm
        have d53 := hFd 53 (by omega)
        have d62 := hFd 62 (by omega)
        have d63 := hFd 63 (by omega)
        simp [g5, g6, g7, g8, e0, e1, e5, e6, e9, e10, e77, e78, e79, wi, n2M, hFp, hp0, hp1, hF4, hc4, g4, hbd, callFoot, d53, d62, d63, buildSliceA, zeros, List.range, List.range.loop]
        generalize hM4 : Mem.mk _ _ _ _ = M4
        have n4 : M4.next = s.mem.next + 67 := by rw [← hM4]
        have low4 : ∀ id, id < s.mem.next → M4.cell id = s.mem.cell id ∧ (id ≠ sid → M4.mode id = s.mem.mode id) ∧ M4.siz id = s.mem.siz id := fun id h => by
          have h1 : ¬ id = s.mem.next + 53 := by omega
          have h2 : ¬ id = s.mem.next + 62 := by omega
          obtain ⟨t1, t2, t3⟩ := low2 id h
          rw [← hM4]
          refine ⟨?_, fun hne => ?_, ?_⟩
          · rw [← t1]; funext o; simp [h1, h2]
          · rw [← t2, ← hFo id hne]; simp [upd, h1, h2]
          · rw [← t3]; simp [upd, h1, h2]
        have mS4 : M4.mode sid ≠ .dead := by
          have h1 : ¬ sid = s.mem.next + 53 := by omega
          have h2 : ¬ sid = s.mem.next + 62 := by omega
          rw [← hM4]; simp [upd, h1, h2]; exact hFl
        have dd4 : ∀ id, s.mem.next ≤ id → id ≠ s.mem.next + 4 → id ≠ s.mem.next + 53 → id ≠ s.mem.next + 62 → M4.mode id = .dead := fun id h h1 h2 h3 => by
          rw [← hM4]; simp [upd, h2, h3]
          rw [hFo id (by omega)]
          exact dd2 id h h1
        have inA : ∀ id n, A = .own id 0 n 9 → lo2 ≤ id ∧ id < s.mem.next := fun id n e => app_own H.hA e
        have inB : ∀ id n, B = .own id 0 n 1 → lo2 ≤ id ∧ id < s.mem.next := fun id n e => app_own H.hB e
        have inW : ∀ id n, W = .own id 0 n 1 → id < m1.next := fun id n e => (app_own H1.hW e).2
        have hA4 : App eTun 9 A ((l.take i).map tOf) lo2 M4 := App.same H.hA (by omega) (fun id n e _ _ => by
          have := inA id n e
          obtain ⟨t1, t2, t3⟩ := low4 id (by omega)
          exact ⟨t1, t2 (by omega), t3⟩)
        have hlt : (List.take i l).length = i := by simp; omega
        have htk : (l.take (i + 1)).map tOf = (l.take i).map tOf ++ [tun0 v bb] := by
          rw [List.take_succ_eq_append_getElem hi, List.map_append, hv, hbb]
          rfl
        obtain ⟨inf', j1, j2, j3⟩ := inf45
        obtain ⟨m5, b1, b2, b3, b4, b5⟩ := App.more (P := Try.prog) (t := 33) eTun_len Try.underlying33 j1 j2 (by omega) zc45 rfl (by omega) hA4 (xid := s.mem.next + 62) (new := s.mem.next + 63) (v := tun0 v bb) (by rw [← hM4]; simp) (fun o ho => by rw [← hM4, het]; simp) (by omega)
          (dd4 _ (by omega) (by omega) (by omega) (by omega)) (by omega) (by simp; omega)
        rw [← htk] at b2
        rw [List.length_map, hlt] at b1 b2
        have hbl : (List.replicate i true ++ List.replicate q false).length = l.length := by simp; omega
        obtain ⟨bid, hB0, hb1, hb2, hb3, hb4⟩ := App.get eBool_len H.hB (i := i) (by rw [hbl]; exact hi)
        rw [hbl] at hB0
        have hbne : ∀ n, A ≠ .own bid 0 n 9 := fun n => H.ne bid _ n hB0
        obtain ⟨t1, t2, t3⟩ := low4 bid (by omega)
        obtain ⟨r1, r2, r3⟩ := b4 bid (by omega) hbne
        have hbm : m5.mode bid = .rw := by rw [r2, t2 (by omega)]; exact hb3
        have hbc : m5.cell bid i = some (.bool ((List.replicate i true ++ List.replicate q false)[i]'(by rw [hbl]; exact hi))) := by
          have := hb4 0 (by omega)
          rw [r1, t1]
          simpa [eBool] using this
        have hix : indexAddrA Try.prog 34 B (.int .i64 i) = some (.ptr bid i) := by rw [hB0]; simp [indexAddrA, hi]
        simp [b1, e0, e1, e5, e6, e9, e10, e77, e78, e79, hix, hbm, hbc, wi]
        refine ⟨_, _, ⟨rfl, rfl⟩, ?_⟩
        simp [e0, e1, e5, e6, e9, e10, e77, e78, e79]
        refine ⟨by omega, i + 1, by omega, by simp, ?_⟩
        generalize hM6 : Mem.mk _ _ _ _ = M6
        have n6 : m5.next ≤ M6.next := by rw [← hM6]; simp
        have same6 : ∀ id, id ≠ bid → M6.cell id = m5.cell id := fun id h => by rw [← hM6]; funext o; simp [h]
        have mode6 : M6.mode = m5.mode := by rw [← hM6]
        have siz6 : M6.siz = m5.siz := by rw [← hM6]
        have cb6 : ∀ o, M6.cell bid o = if o = i then some (.bool true) else m5.cell bid o := fun o => by
          by_cases ho : o = i
          · rw [← hM6, ho]; simp
          · have : ¬ (i ≤ o ∧ o < i + 1) := by omega
            rw [← hM6]; simp [ho, this]
        clear hM6
        -- all in one: what lies below, but for the list of the stations and the busy ones
        have old : ∀ id, id < s.mem.next → (∀ n, A ≠ .own id 0 n 9) → id ≠ bid → M6.cell id = s.mem.cell id ∧ (id ≠ sid → M6.mode id = s.mem.mode id) ∧ M6.siz id = s.mem.siz id := fun id h h1 h2 => by
          obtain ⟨t1, t2, t3⟩ := low4 id h
          obtain ⟨r1, r2, r3⟩ := b4 id (by omega) h1
          exact ⟨(same6 id h2).trans (r1.trans t1), fun hne => by rw [mode6, r2, t2 hne], by rw [siz6, r3, t3]⟩
        have lowA : ∀ id, id < lo2 → (∀ n, A ≠ .own id 0 n 9) := fun id h n e => by have := inA _ _ e; omega
        obtain ⟨p1, p2, p3⟩ := old p (by omega) (lowA p (by omega)) (by omega)
        have pne : p ≠ sid := fun h => H1.pS _ (h ▸ hS0)
        obtain ⟨q1, q2, q3⟩ := b4 sid (by omega) (lowA sid (by omega))
        have frb : Fresh m5 := fun id hid => b5 id (by omega) (dd4 id (by omega) (by omega) (by omega) (by omega))
        refine ⟨by rw [p2 pne]; exact mp, by rw [p1]; exact c0, by rw [p1]; exact c1, ?_, ?_, ?_, ?_, by omega, fun id hid => by rw [mode6]; exact frb id (by omega), fun id n n' e e' => ?_⟩
        · refine Kept.same H.kS (fun id n e => ?_) (fun id n e h => ?_)
          · rw [inS id n e]
            exact (old sid (by omega) (lowA sid (by omega)) (by omega)).1
          · rw [inS id n e, mode6, q2]
            exact mS4
        · exact App.same H.hW (by omega) (fun id n e _ _ => by
            have h1 := inW id n e
            obtain ⟨z1, z2, z3⟩ := old id (by omega) (lowA id (by omega)) (by omega)
            exact ⟨z1, z2 (fun h => H1.ne sid _ n hS0 (h ▸ e)), z3⟩)
        · have hset : (List.replicate (i + 1) true ++ List.replicate (q - 1) false) = (List.replicate i true ++ List.replicate q false).set i true := by
            obtain ⟨q, rfl⟩ : ∃ j, q = j + 1 := ⟨q - 1, by omega⟩
            rw [List.set_append_right _ _ (by simp), List.replicate_succ' (n := i)]
            simp [List.replicate_succ]
          rw [hset]
          have hB5 : App eBool 1 (.own bid 0 l.length 1) (List.replicate i true ++ List.replicate q false) lo2 m5 := by
            have := App.same (m' := m5) H.hB (by omega) (fun id n e _ _ => by
              have : id = bid := by rw [hB0] at e; injection e with e; exact e.symm
              subst this
              exact ⟨r1.trans t1, r2.trans (t2 (by omega)), r3.trans t3⟩)
            rwa [hB0] at this
          rw [hB0]
          refine App.setAt eBool_len (by omega) hB5 (by rw [hbl]; exact hi) n6 (by rw [mode6]) (by rw [siz6]) (fun o ho => ?_) (fun o ho => ?_)
          · have : o = 0 := by omega
            subst this
            rw [cb6]
            simp [eBool]
          · rw [cb6, if_neg (by omega)]
        · rw [← List.map_take]
          exact App.same b2 (by omega) (fun id n e _ _ => by
            injection e with e
            exact ⟨same6 _ (by omega), by rw [mode6], by rw [siz6]⟩)
        · have : id = bid := by rw [hB0] at e; injection e with e; exact e.symm
          injection e'
          omega
      · have : i = l.length := by omega
        subst this
        have : q = 0 := by omega
        subst this
        simp [e0, e1, e5, e6, e9, e10, e77, e78, e79]
        rw [List.take_length] at H
        have hg := Grow.bump s.mem 1
        have hB := H.hB.grow hg
        simp only [List.replicate_zero, List.append_nil] at hB
        exact ⟨H.mp, H.c0, H.c1, H.kS, H.hW.grow hg, hB, H.hA.grow hg, by have := H.nx; simp only []; omega, Fresh.bump H.fresh _ _ _, H.ne⟩)
  obtain ⟨rfl, h⟩ := hp
  exact ⟨s', rfl, h⟩
end Go.Proofs.Ytmfdjipijifabab
end
