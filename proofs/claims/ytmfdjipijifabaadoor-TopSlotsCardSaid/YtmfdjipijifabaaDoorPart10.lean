/- Part 10 of a proof in many texts, put together: definitions and lemmas. The theorem stands in the last text; no conditions. -/
import Derived.Test.YtmfdjipijifabaaDoorPart9
import Derived.Laws.StructEq
section
/- The bursts of a run, as the medium has them. -/
set_option linter.unusedVariables false
set_option linter.unusedSimpArgs false
namespace Go.Proofs.YtmfdjipijifabaaDoor
open Go.Ab

/-- The transmissions that begin before the last slot. -/
structure Slots (h : List (List Bool)) (ask : Bool) (n : Nat) (tos : Nat → Nat) (en : Int) (bs : List Bur) : Prop where
  bur : ∀ x ∈ bs, x.who < n ∧ 0 ≤ x.start ∧ x.start < x.fin ∧ x.fin ≤ en + 12 ∧ x.fin ≤ x.start + 7
  apart : bs.Pairwise fun x y => x.who = y.who → x.fin ≤ y.start
  polite : ∀ x ∈ bs, ∀ y ∈ bs, x.start < y.start → y.start < x.fin → x.who ≠ y.who ∧ hr h y.who x.who = false
  good : ∀ x ∈ bs, x.fin ≤ en → (x.asked = true → ask = true) ∧ (x.good = true ↔ (ask = true → x.asked = true) ∧ ∀ t', x.start ≤ t' → t' < x.fin → ¬ Dst h tos (fun k t => ∃ b ∈ bs, b.who = k ∧ b.start ≤ t ∧ t < b.fin) x.who t')

theorem slots_of {h : List (List Bool)} {ask : Bool} {n : Nat} {tos : Nat → Nat} {l0 : List Sta} {d : List Int} (hlen : l0.length = n) (hh : h.length = n) (hlt : ∀ i, i < n → tos i < n)
    (h0 : ∀ (i : Nat) (s : Sta), l0[i]? = some s → s.fin = 0 ∧ s.c.to = tos i ∧ 1 ≤ s.c.air ∧ s.c.air ≤ 6) (en : Nat) :
    Slots h ask n tos en ((runR h ask l0 d (en + 12)).out.filter fun b => decide (b.start < en)) := by
  have inv := (run_inv (ask := ask) (d := d) hlen hh hlt h0 (en + 12)).1
  generalize hR : runR h ask l0 d (en + 12) = R at inv
  have hmem : ∀ x, x ∈ R.out.filter (fun b => decide (b.start < (en : Int))) ↔ x ∈ R.out ∧ x.start < en := fun x => by simp [List.mem_filter]
  refine ⟨fun x hx => ?_, inv.apart.filter _, fun x hx y hy h1 h2 => ?_, fun x hx hf => ?_⟩
  · obtain ⟨a1, a2, a3, a4, a5⟩ := inv.bur x ((hmem x).1 hx).1
    refine ⟨a1, a2, a3, ?_, a5⟩
    simp at a4
    omega
  · exact inv.polite x.who x.start x.fin y.who y.start y.fin (.inl ⟨x, ((hmem x).1 hx).1, rfl, rfl, rfl⟩) (.inl ⟨y, ((hmem y).1 hy).1, rfl, rfl, rfl⟩) h1 h2
  · obtain ⟨g1, g2⟩ := inv.good x ((hmem x).1 hx).1
    refine ⟨g1, g2.trans (and_congr_right fun _ => ?_)⟩
    refine forall_congr' fun t' => forall_congr' fun ht1 => forall_congr' fun ht2 => not_congr (Dst.congr fun k => ?_)
    constructor
    · rintro ⟨a, b, (⟨y, hy, e1, e2, e3⟩ | ⟨s, hs, e1, e2, e3⟩), h1, h2⟩
      · exact ⟨y, (hmem y).2 ⟨hy, by omega⟩, e1, by omega, by omega⟩
      · rcases inv.wf k s hs with h | ⟨w1, w2, w3, w4⟩
        · exact absurd h e1
        · simp at w3
          omega
    · rintro ⟨b, hb, e1, e2, e3⟩
      exact ⟨b.start, b.fin, .inl ⟨b, ((hmem b).1 hb).1, e1, rfl, rfl⟩, e2, e3⟩

theorem nodup_len : ∀ (N : Nat) (l : List Nat), l.Nodup → (∀ x ∈ l, x < N) → l.length ≤ N := by
  intro N
  induction N with
  | zero =>
    intro l _ h
    cases l with
    | nil => exact Nat.le_refl _
    | cons a l => have := h a (by simp); omega
  | succ N ih =>
    intro l hn h
    by_cases hm : N ∈ l
    · have h1 := ih (l.erase N) (hn.erase N) (fun x hx => by
        have h2 := h x (List.mem_of_mem_erase hx)
        have h3 : x ≠ N := fun e => by
          subst e
          exact (List.Nodup.not_mem_erase hn) hx
        omega)
      rw [List.length_erase_of_mem hm] at h1
      omega
    · have := ih l hn (fun x hx => by
        have h2 := h x hx
        have h3 : x ≠ N := fun e => hm (e ▸ hx)
        omega)
      omega

/-- Not at the same time by the same station. -/
def Apt (x y : Bur) : Prop := ¬ (x.who = y.who ∧ x.start < y.fin ∧ y.start < x.fin)
theorem Apt.symm {x y : Bur} (h : Apt x y) : Apt y x := fun ⟨a, b, c⟩ => h ⟨a.symm, c, b⟩
theorem apt_of {bs : List Bur} (hp : bs.Pairwise fun x y => x.who = y.who → x.fin ≤ y.start) {i j : Nat} (hi : i < bs.length) (hj : j < bs.length) (hij : i ≠ j) : Apt bs[i] bs[j] := by
  rw [List.pairwise_iff_getElem] at hp
  rintro ⟨h1, h2, h3⟩
  rcases Nat.lt_or_gt_of_ne hij with h | h
  · have := hp i j hi hj h h1; omega
  · have := hp j i hj hi h h1.symm; omega

/-- The bursts that overlap; those that go on. -/
def onB (bs : List Bur) (a : Bur) (i : Nat) : List Bur := a :: (List.range bs.length).filterMap fun k => match bs[k]? with
    | some b => if k ≠ i ∧ b.start < a.fin ∧ a.start < b.fin then some b else none
    | none => none
def polB (bs : List Bur) (a : Bur) (i : Nat) : List Bur := (List.range bs.length).filterMap fun k => match bs[k]? with
    | some b => if k ≠ i ∧ b.start < a.start ∧ a.start < b.fin then some b else none
    | none => none
theorem onL_eq (bs : List Bur) (a : Bur) (i : Nat) (fr : Int) : onL bs a i fr bs.length = (onB bs a i).map (toSen fr) := by
  unfold onL onB
  rw [List.map_cons, List.map_filterMap]
  congr 2
  funext k
  cases bs[k]? with
  | none => rfl
  | some b => simp only []; split <;> rfl
theorem polL_eq (bs : List Bur) (a : Bur) (i : Nat) (fr : Int) : polL bs a i fr bs.length = (polB bs a i).map (toSen fr) := by
  unfold polL polB
  rw [List.map_filterMap]
  congr 1
  funext k
  cases bs[k]? with
  | none => rfl
  | some b => simp only []; split <;> rfl
theorem onB_mem {bs : List Bur} {i : Nat} (hi : i < bs.length) {b : Bur} (h : b ∈ (onB bs bs[i] i).tail) : ∃ k, ∃ hk : k < bs.length, b = bs[k] ∧ k ≠ i ∧ bs[k].start < bs[i].fin ∧ bs[i].start < bs[k].fin := by
  unfold onB at h
  rw [List.tail_cons, List.mem_filterMap] at h
  obtain ⟨k, hk, h⟩ := h
  have hk' : k < bs.length := by simpa using hk
  rw [List.getElem?_eq_getElem hk'] at h
  simp only [] at h
  split at h
  · rename_i hc
    exact ⟨k, hk', (Option.some.inj h).symm, hc⟩
  · cases h
theorem polB_mem {bs : List Bur} {i : Nat} (hi : i < bs.length) {b : Bur} (h : b ∈ polB bs bs[i] i) : ∃ k, ∃ hk : k < bs.length, b = bs[k] ∧ k ≠ i ∧ bs[k].start < bs[i].start ∧ bs[i].start < bs[k].fin := by
  unfold polB at h
  rw [List.mem_filterMap] at h
  obtain ⟨k, hk, h⟩ := h
  have hk' : k < bs.length := by simpa using hk
  rw [List.getElem?_eq_getElem hk'] at h
  simp only [] at h
  split at h
  · rename_i hc
    exact ⟨k, hk', (Option.some.inj h).symm, hc⟩
  · cases h
theorem pw_pick {bs : List Bur} (hp : bs.Pairwise fun x y => x.who = y.who → x.fin ≤ y.start) (p : Nat → Bur → Prop) [∀ k b, Decidable (p k b)] :
    ((List.range bs.length).filterMap fun k => match bs[k]? with
      | some b => if p k b then some b else none
      | none => none).Pairwise Apt := by
  rw [List.pairwise_filterMap]
  refine List.pairwise_lt_range.imp fun {x y} hxy b hb b' hb' => ?_
  have get : ∀ {x : Nat} {b : Bur}, (match bs[x]? with
      | some b => if p x b then some b else none
      | none => none) = some b → ∃ hx : x < bs.length, bs[x] = b := by
    intro x b hb
    cases hx : bs[x]? with
    | none => rw [hx] at hb; cases hb
    | some c =>
      rw [hx] at hb
      simp only [] at hb
      split at hb
      · cases hb
        exact List.getElem?_eq_some_iff.1 hx
      · cases hb
  obtain ⟨hx, e1⟩ := get hb
  obtain ⟨hy, e2⟩ := get hb'
  rw [← e1, ← e2]
  exact apt_of hp hx hy (by omega)
theorem onB_apt {bs : List Bur} (hp : bs.Pairwise fun x y => x.who = y.who → x.fin ≤ y.start) {i : Nat} (hi : i < bs.length) : (onB bs bs[i] i).Pairwise Apt := by
  have h1 := pw_pick hp (fun k b => k ≠ i ∧ b.start < bs[i].fin ∧ bs[i].start < b.fin)
  unfold onB
  rw [List.pairwise_cons]
  refine ⟨fun b hb => ?_, h1⟩
  obtain ⟨k, hk, rfl, hki, _⟩ := onB_mem hi (b := b) hb
  exact apt_of hp hi hk (Ne.symm hki)
theorem polB_apt {bs : List Bur} (hp : bs.Pairwise fun x y => x.who = y.who → x.fin ≤ y.start) {i : Nat} (hi : i < bs.length) : (polB bs bs[i] i).Pairwise Apt :=
  pw_pick hp (fun k b => k ≠ i ∧ b.start < bs[i].start ∧ bs[i].start < b.fin)

theorem sen_ok {w : Air} {fr : Int} (hfr : 0 ≤ fr ∧ fr ≤ 2 ^ 39) {L : List Bur} (hp : L.Pairwise Apt) (hb : ∀ x ∈ L, x.who < w.rs.length ∧ 0 ≤ x.start ∧ x.start < x.fin ∧ x.fin ≤ 100000) (hl : L.length ≤ 64) : SenOk w (L.map (toSen fr)) := by
  refine ⟨by simpa using hl, fun s hs => ?_, fun i j hi hj => ?_⟩
  · obtain ⟨b, hbm, rfl⟩ := List.mem_map.1 hs
    obtain ⟨b1, b2, b3, b4⟩ := hb b hbm
    simp only [toSen]
    omega
  · have hi' : i < L.length := by simpa using hi
    have hj' : j < L.length := by omega
    rw [List.getElem_map, List.getElem_map]
    rw [List.pairwise_iff_getElem] at hp
    have := hp j i hj' hi' hj
    rintro ⟨h1, h2⟩
    apply this
    simp only [toSen, ovl, Bool.and_eq_true] at h1 h2
    have h3 := of_decide_eq_true h2.1
    have h4 := of_decide_eq_true h2.2
    omega

section
variable {h : List (List Bool)} {ask : Bool} {n : Nat} {tos : Nat → Nat} {en : Int} {bs : List Bur}

theorem Slots.onLen (H : Slots h ask n tos en bs) (hn : n ≤ 6) {i : Nat} (hi : i < bs.length) : (onB bs bs[i] i).length ≤ 42 := by
  have ha := H.bur _ (List.getElem_mem hi)
  have hall : ∀ b ∈ onB bs bs[i] i, b ∈ bs ∧ b.start < bs[i].fin ∧ bs[i].start < b.fin := by
    intro b hb
    unfold onB at hb
    rcases List.mem_cons.1 hb with rfl | hb
    · exact ⟨List.getElem_mem hi, by omega, by omega⟩
    · obtain ⟨k, hk, rfl, _, h1, h2⟩ := onB_mem hi (b := b) hb
      exact ⟨List.getElem_mem hk, h1, h2⟩
  have := nodup_len 42 ((onB bs bs[i] i).map fun b => b.who * 7 + (max b.start bs[i].start - bs[i].start).toNat) (by
    rw [List.Nodup, List.pairwise_map]
    refine List.Pairwise.imp_of_mem ?_ (onB_apt H.apart hi)
    intro x y hx hy hxy e
    obtain ⟨x1, x2, x3⟩ := hall x hx
    obtain ⟨y1, y2, y3⟩ := hall y hy
    have bx := H.bur x x1
    have bY := H.bur y y1
    apply hxy
    omega) (by
    intro z hz
    obtain ⟨x, hx, rfl⟩ := List.mem_map.1 hz
    obtain ⟨x1, x2, x3⟩ := hall x hx
    have bx := H.bur x x1
    omega)
  simpa using this
theorem Slots.polLen (H : Slots h ask n tos en bs) (hn : n ≤ 6) {i : Nat} (hi : i < bs.length) : (polB bs bs[i] i).length ≤ 6 := by
  have := nodup_len 6 ((polB bs bs[i] i).map fun b => b.who) (by
    rw [List.Nodup, List.pairwise_map]
    refine List.Pairwise.imp_of_mem ?_ (polB_apt H.apart hi)
    intro x y hx hy hxy e
    obtain ⟨k, hk, rfl, k1, k2, k3⟩ := polB_mem hi hx
    obtain ⟨j, hj, rfl, j1, j2, j3⟩ := polB_mem hi hy
    apply hxy
    omega) (by
    intro z hz
    obtain ⟨x, hx, rfl⟩ := List.mem_map.1 hz
    obtain ⟨k, hk, rfl, k1, k2, k3⟩ := polB_mem hi hx
    have := H.bur _ (List.getElem_mem hk)
    omega)
  simpa using this

theorem Slots.onOk (H : Slots h ask n tos en bs) (hn : n ≤ 6) (hen : en ≤ 80) {w : Air} (hw : w.rs.length = n) {fr : Int} (hfr : 0 ≤ fr ∧ fr ≤ 2 ^ 39) {i : Nat} (hi : i < bs.length) : SenOk w (onL bs bs[i] i fr bs.length) := by
  rw [onL_eq]
  refine sen_ok hfr (onB_apt H.apart hi) (fun b hb => ?_) (by have := H.onLen hn hi; omega)
  have hb' : b ∈ bs := by
    unfold onB at hb
    rcases List.mem_cons.1 hb with rfl | hb
    · exact List.getElem_mem hi
    · obtain ⟨k, hk, rfl, _⟩ := onB_mem hi (b := b) hb
      exact List.getElem_mem hk
  have := H.bur b hb'
  omega
theorem Slots.polOk (H : Slots h ask n tos en bs) (hn : n ≤ 6) (hen : en ≤ 80) {w : Air} (hw : w.rs.length = n) {fr : Int} (hfr : 0 ≤ fr ∧ fr ≤ 2 ^ 39) {i : Nat} (hi : i < bs.length) : SenOk w (polL bs bs[i] i fr bs.length) := by
  rw [polL_eq]
  refine sen_ok hfr (polB_apt H.apart hi) (fun b hb => ?_) (by have := H.polLen hn hi; omega)
  obtain ⟨k, hk, rfl, _⟩ := polB_mem hi hb
  have := H.bur _ (List.getElem_mem hk)
  omega
end
end Go.Proofs.YtmfdjipijifabaaDoor
end
section
/- What the medium says of the bursts. -/
set_option linter.unusedVariables false
set_option linter.unusedSimpArgs false
namespace Go.Proofs.YtmfdjipijifabaaDoor
open Go.Ab

/-- The medium is what the stations hear. -/
structure Fits (w : Air) (h : List (List Bool)) (n : Nat) : Prop where
  len : w.rs.length = n
  hear : ∀ i j, i < n → j < n → w.hear i j = hr h j i
  near : ∀ i j, i < n → j < n → hr h j i = true → -400 ≤ w.lev i j ∧ w.lev i j ≤ -301
  far : ∀ i j, i < n → j < n → i ≠ j → hr h j i = false → w.lev i j ≤ -901

section
variable {w : Air} {h : List (List Bool)} {ask : Bool} {n : Nat} {tos : Nat → Nat} {en : Int} {bs : List Bur}

theorem onB_tail_mem {i k : Nat} (hi : i < bs.length) (hk : k < bs.length) (hki : k ≠ i) (h1 : bs[k].start < bs[i].fin) (h2 : bs[i].start < bs[k].fin) : bs[k] ∈ (onB bs bs[i] i).tail := by
  unfold onB
  rw [List.tail_cons, List.mem_filterMap]
  refine ⟨k, by simpa using hk, ?_⟩
  rw [List.getElem?_eq_getElem hk]
  simp only []
  rw [if_pos ⟨hki, h1, h2⟩]

theorem clear_iff {i to : Nat} (hi : i < bs.length) :
    (hr h to bs[i].who && (List.range bs.length).all fun q => !disturbs h bs bs[i] i to q) = true ↔ hr h to bs[i].who = true ∧ ∀ b ∈ (onB bs bs[i] i).tail, b.who ≠ to ∧ hr h to b.who = false := by
  rw [Bool.and_eq_true, List.all_eq_true]
  refine and_congr_right fun _ => ⟨fun H b hb => ?_, fun H q hq => ?_⟩
  · obtain ⟨k, hk, rfl, h1, h2, h3⟩ := onB_mem hi hb
    have := H k (by simpa using hk)
    simp [disturbs, List.getElem?_eq_getElem hk, h1, h2, h3] at this
    exact this
  · have hq' : q < bs.length := by simpa using hq
    rw [Bool.not_eq_true']
    simp only [disturbs, List.getElem?_eq_getElem hq']
    by_cases h1 : q ≠ i
    · by_cases h2 : bs[q].start < bs[i].fin
      · by_cases h3 : bs[i].start < bs[q].fin
        · obtain ⟨a, b⟩ := H _ (onB_tail_mem hi hq' h1 h2 h3)
          simp [a, b]
        · simp [h3]
      · simp [h2]
    · simp [h1]

theorem can_iff (F : Fits w h n) {i to : Nat} (fr : Int) (hi : i < bs.length) (hto : to < n) (hwh : ∀ b ∈ bs, b.who < n) (hne : to ≠ bs[i].who) (hlt : ∀ b ∈ bs, b.start < b.fin) :
    canW w (onL bs bs[i] i fr bs.length) 0 to = true ↔ hr h to bs[i].who = true ∧ ∀ b ∈ (onB bs bs[i] i).tail, b.who ≠ to ∧ hr h to b.who = false := by
  have hwi := hwh _ (List.getElem_mem hi)
  have h0 : (onL bs bs[i] i fr bs.length)[0]? = some (toSen fr bs[i]) := rfl
  have hlen : (onL bs bs[i] i fr bs.length).length = (onB bs bs[i] i).length := by rw [onL_eq]; simp
  unfold canW
  rw [h0]
  simp only []
  rw [Bool.and_eq_true, Bool.and_eq_true, List.all_eq_true]
  have e1 : (toSen fr bs[i]).n.toNat = bs[i].who := by simp [toSen]
  rw [e1, F.hear _ _ hwi hto]
  refine and_congr_right fun hh => ?_
  obtain ⟨n1, n2⟩ := F.near _ _ hwi hto hh
  have sp : ∀ k (hk : k < (onB bs bs[i] i).length), spoils w (onL bs bs[i] i fr bs.length) i to k = spoils w (onL bs bs[i] i fr bs.length) i to k := fun _ _ => rfl
  have key : ∀ (p : Nat) (b : Bur), (onB bs bs[i] i).tail[p]? = some b → spoils w (onL bs bs[i] i fr bs.length) 0 to (p + 1) = (decide (b.who = to) || hr h to b.who) := by
    intro p b hp
    have hb : b ∈ (onB bs bs[i] i).tail := List.mem_of_getElem? hp
    obtain ⟨k, hk, rfl, h1, h2, h3⟩ := onB_mem hi hb
    have hg : (onL bs bs[i] i fr bs.length)[p + 1]? = some (toSen fr bs[k]) := by
      rw [onL_eq, List.getElem?_map]
      have : (onB bs bs[i] i)[p + 1]? = some bs[k] := by rw [← hp, List.getElem?_tail]
      rw [this]
      rfl
    have hwk := hwh _ (List.getElem_mem hk)
    have ho : ovl (toSen fr bs[k]) (toSen fr bs[i]) = true := by
      have a1 : fr + bs[k].start * 9 < fr + bs[i].fin * 9 := by omega
      have a2 : fr + bs[i].start * 9 < fr + bs[k].fin * 9 := by omega
      simp [ovl, toSen, a1, a2]
    have e2 : (toSen fr bs[k]).n.toNat = bs[k].who := by simp [toSen]
    unfold spoils
    rw [hg, h0]
    simp only []
    rw [e1, e2, ho]
    by_cases hwt : bs[k].who = to
    · simp [hwt]
    · cases hr' : hr h to bs[k].who with
      | true =>
        obtain ⟨x1, x2⟩ := F.near _ _ hwk hto hr'
        have : w.lev bs[i].who to < w.lev bs[k].who to + 100 := by omega
        simp [this]
      | false =>
        have := F.far _ _ hwk hto hwt hr'
        have : ¬ w.lev bs[i].who to < w.lev bs[k].who to + 100 := by omega
        simp [this, hwt]
  constructor
  · rintro ⟨_, H⟩ b hb
    obtain ⟨p, hp⟩ := List.getElem?_of_mem hb
    have hpl := (List.getElem?_eq_some_iff.1 hp).1
    rw [List.length_tail] at hpl
    have := H (p + 1) (by rw [List.mem_range, hlen]; omega)
    rw [key p b hp] at this
    simp at this
    exact this
  · intro H
    refine ⟨by simp only [toSen]; exact decide_eq_true (by omega), fun k hk => ?_⟩
    rw [List.mem_range, hlen] at hk
    cases k with
    | zero =>
      unfold spoils
      rw [h0]
      simp
    | succ p =>
      have hp : p < (onB bs bs[i] i).tail.length := by rw [List.length_tail]; omega
      rw [key p _ (List.getElem?_eq_getElem hp)]
      obtain ⟨a, b⟩ := H _ (List.getElem_mem hp)
      rw [decide_eq_false a, b]
      rfl

theorem can_clear (F : Fits w h n) {i to : Nat} (fr : Int) (hi : i < bs.length) (hto : to < n) (hwh : ∀ b ∈ bs, b.who < n) (hne : to ≠ bs[i].who) (hlt : ∀ b ∈ bs, b.start < b.fin) :
    canW w (onL bs bs[i] i fr bs.length) 0 to = (hr h to bs[i].who && (List.range bs.length).all fun q => !disturbs h bs bs[i] i to q) := by
  rw [Bool.eq_iff_iff, can_iff F fr hi hto hwh hne hlt, clear_iff hi]

theorem Slots.dst (H : Slots h ask n tos en bs) {i : Nat} (hi : i < bs.length) (hne : tos bs[i].who ≠ bs[i].who) :
    (∀ t', bs[i].start ≤ t' → t' < bs[i].fin → ¬ Dst h tos (fun k t => ∃ b ∈ bs, b.who = k ∧ b.start ≤ t ∧ t < b.fin) bs[i].who t') ↔ (hr h (tos bs[i].who) bs[i].who = true ∧ ∀ b ∈ (onB bs bs[i] i).tail, b.who ≠ tos bs[i].who ∧ hr h (tos bs[i].who) b.who = false) := by
  have ha := H.bur _ (List.getElem_mem hi)
  constructor
  · intro K
    refine ⟨?_, fun b hb => ?_⟩
    · have := K bs[i].start (Int.le_refl _) ha.2.2.1
      cases hh : hr h (tos bs[i].who) bs[i].who with
      | true => rfl
      | false => exact absurd (.inl hh) this
    · obtain ⟨k, hk, rfl, h1, h2, h3⟩ := onB_mem hi hb
      have hb' := H.bur _ (List.getElem_mem hk)
      have hK := K (max bs[k].start bs[i].start) (by omega) (by omega)
      have hat := apt_of H.apart hk hi h1
      refine ⟨fun e => hK (.inr (.inl ⟨bs[k], List.getElem_mem hk, e, by omega, by omega⟩)), ?_⟩
      cases hh : hr h (tos bs[i].who) bs[k].who with
      | false => rfl
      | true => exact absurd (.inr (.inr ⟨bs[k].who, fun e => hat ⟨e, by omega, by omega⟩, hh, bs[k], List.getElem_mem hk, rfl, by omega, by omega⟩)) hK
  · rintro ⟨K1, K2⟩ t' ht1 ht2 hD
    rcases hD with hD | ⟨b, hb, e, h1, h2⟩ | ⟨k, hk, hh, b, hb, e, h1, h2⟩
    · rw [K1] at hD; cases hD
    · obtain ⟨q, hq, rfl⟩ := List.mem_iff_getElem.1 hb
      have hqi : q ≠ i := fun e' => by subst e'; exact hne e.symm
      exact (K2 _ (onB_tail_mem hi hq hqi (by omega) (by omega))).1 e
    · obtain ⟨q, hq, rfl⟩ := List.mem_iff_getElem.1 hb
      have hqi : q ≠ i := fun e' => by subst e'; exact hk e.symm
      have := (K2 _ (onB_tail_mem hi hq hqi (by omega) (by omega))).2
      rw [e, hh] at this
      cases this

/-- A transmission that has ended was good just if the medium has its receiver. -/
theorem Slots.fair (H : Slots h ask n tos en bs) (F : Fits w h n) (fr : Int) {i : Nat} (hi : i < bs.length) (hf : bs[i].fin ≤ en) (hto : tos bs[i].who < n) (hne : tos bs[i].who ≠ bs[i].who) :
    bs[i].good = (canW w (onL bs bs[i] i fr bs.length) 0 (tos bs[i].who) && (!ask || bs[i].asked)) ∧ (bs[i].asked && !ask) = false := by
  obtain ⟨g1, g2⟩ := H.good _ (List.getElem_mem hi) hf
  have hc := can_iff F fr hi hto (fun b hb => (H.bur b hb).1) hne (fun b hb => (H.bur b hb).2.2.1)
  rw [H.dst hi hne, ← hc] at g2
  constructor
  · rw [Bool.eq_iff_iff, g2, Bool.and_eq_true, and_comm]
    refine and_congr_right fun _ => ?_
    cases ask <;> simp
  · cases ha : bs[i].asked with
    | false => rfl
    | true => rw [g1 ha]; rfl

/-- No station begins to send while the medium is busy for it. -/
theorem Slots.quiet (H : Slots h ask n tos en bs) (F : Fits w h n) (fr : Int) {i : Nat} (hi : i < bs.length) (p : Sen → Bool) :
    (((polL bs bs[i] i fr bs.length).filter (senses w bs[i].who)).any p) = false := by
  have : (polL bs bs[i] i fr bs.length).filter (senses w bs[i].who) = [] := by
    rw [List.filter_eq_nil_iff]
    intro x hx
    rw [polL_eq] at hx
    obtain ⟨b, hb, rfl⟩ := List.mem_map.1 hx
    obtain ⟨k, hk, rfl, h1, h2, h3⟩ := polB_mem hi hb
    obtain ⟨p1, p2⟩ := H.polite _ (List.getElem_mem hk) _ (List.getElem_mem hi) h2 h3
    have e : (toSen fr bs[k]).n.toNat = bs[k].who := by simp [toSen]
    unfold senses
    rw [e, F.hear _ _ (H.bur _ (List.getElem_mem hk)).1 (H.bur _ (List.getElem_mem hi)).1, p2]
    simp [p1]
  rw [this]
  rfl
end

theorem hmF_self (n : Nat) (hd : List Bool) (i : Nat) : hmF n hd i i = false := by simp [hmF]
theorem hr_ctsOf {ask : Bool} {l : List Tlk} {hd : List Bool} {i j : Nat} (hi : i < l.length) (hj : j < l.length) : hr (ctsOf ask l hd).h j i = hmF l.length hd j i := by
  simp [hr, ctsOf, hi, hj]
theorem sh_airOf {l : List Tlk} {hd : List Bool} {i j : Nat} (hi : i < l.length) (hj : j < l.length) : ((airOf l hd).sh[i]?.bind (·[j]?)).getD 0 = wmF l.length hd i j := by
  simp [airOf, hi, hj]
theorem airOf_ok (l : List Tlk) (hd : List Bool) (hn : 2 ≤ l.length ∧ l.length ≤ 6) : (airOf l hd).ok := by
  refine ⟨by simp [airOf]; omega, by simp [airOf]; omega, fun r hr => ?_, by simp [airOf], fun i hi => by simp [airOf], fun i hi => ?_, fun r hr x hx => ?_⟩
  · simp only [airOf, List.mem_map] at hr
    obtain ⟨x, _, rfl⟩ := hr
    have h1 := Int.emod_nonneg x.power (show (100 : Int) ≠ 0 by omega)
    have h2 := Int.emod_lt_of_pos x.power (show (0 : Int) < 100 by omega)
    exact ⟨rfl, rfl, ⟨h1, Int.le_of_lt_add_one h2⟩, rfl⟩
  · have hi' : i < l.length := by simpa [airOf] using hi
    simp [airOf, hi', wmF]
  · simp only [airOf, List.mem_map] at hr
    obtain ⟨i, _, rfl⟩ := hr
    obtain ⟨j, _, rfl⟩ := List.mem_map.1 hx
    unfold wmF
    split <;> omega
theorem fits_of (ask : Bool) (l : List Tlk) (hd : List Bool) (hn : 2 ≤ l.length ∧ l.length ≤ 6) : Fits (airOf l hd) (ctsOf ask l hd).h l.length := by
  have hl : ∀ i j, i < l.length → j < l.length → ∃ p, (0 ≤ p ∧ p ≤ 99) ∧ (airOf l hd).lev i j = p - (400 + wmF l.length hd i j) := by
    intro i j hi hj
    refine ⟨(radOf l[i]).p, ?_, ?_⟩
    · have h1 := Int.emod_nonneg l[i].power (show (100 : Int) ≠ 0 by omega)
      have h2 := Int.emod_lt_of_pos l[i].power (show (0 : Int) < 100 by omega)
      simp only [radOf]
      omega
    · unfold Air.lev
      rw [sh_airOf hi hj]
      simp [airOf, hi]
  refine ⟨by simp [airOf], fun i j hi hj => ?_, fun i j hi hj h => ?_, fun i j hi hj hij h => ?_⟩
  · obtain ⟨p, hp, hlev⟩ := hl i j hi hj
    rw [hr_ctsOf hi hj]
    unfold Air.hear
    rw [hlev]
    by_cases hij : i = j
    · subst hij; rw [hmF_self]; simp
    · cases hm : hmF l.length hd j i with
      | true =>
        have : wmF l.length hd i j = 0 := by simp [wmF, hm]
        rw [this]
        simp [hij]
        omega
      | false =>
        have : wmF l.length hd i j = 600 := by simp [wmF, hm, hij]
        rw [this]
        simp
        omega
  · obtain ⟨p, hp, hlev⟩ := hl i j hi hj
    rw [hr_ctsOf hi hj] at h
    have : wmF l.length hd i j = 0 := by simp [wmF, h]
    omega
  · obtain ⟨p, hp, hlev⟩ := hl i j hi hj
    rw [hr_ctsOf hi hj] at h
    have : wmF l.length hd i j = 600 := by simp [wmF, h, hij]
    omega
theorem toOf_lt {n i : Nat} {x : Tlk} (hn : 2 ≤ n) (hi : i < n) : toOf n i x < n ∧ toOf n i x ≠ i := by
  have h1 := Int.emod_nonneg x.to (show ((n : Int) - 1) ≠ 0 by omega)
  have h2 := Int.emod_lt_of_pos x.to (show (0 : Int) < (n : Int) - 1 by omega)
  unfold toOf
  split <;> omega
theorem ctsOf_ok (ask : Bool) (l : List Tlk) (hd : List Bool) (hn : 2 ≤ l.length ∧ l.length ≤ 6) (s : Int) (hs : 0 ≤ s ∧ s ≤ 2000) : ({ ctsOf ask l hd with slots := s } : Cts).ok := by
  refine ⟨by simp [ctsOf]; omega, by simp [ctsOf], hs, fun i hi => by simp [ctsOf], fun i hi hj => by simp [ctsOf, hmF_self], fun i hi => ?_⟩
  have hi' : i < l.length := by simpa [ctsOf] using hi
  have e : (ctsOf ask l hd).st[i] = conOf l.length i l[i] := by simp [ctsOf]
  simp only []
  rw [e]
  have h1 := Int.emod_nonneg l[i].cat (show (4 : Int) ≠ 0 by omega)
  have h2 := Int.emod_lt_of_pos l[i].cat (show (0 : Int) < 4 by omega)
  have h3 := Int.emod_nonneg l[i].draw (show (4096 : Int) ≠ 0 by omega)
  have h4 := Int.emod_nonneg l[i].frames (show (9 : Int) ≠ 0 by omega)
  have h5 := Int.emod_lt_of_pos l[i].frames (show (0 : Int) < 9 by omega)
  have h6 := Int.emod_nonneg l[i].air (show (6 : Int) ≠ 0 by omega)
  have h7 := Int.emod_lt_of_pos l[i].air (show (0 : Int) < 6 by omega)
  have hst : (ctsOf ask l hd).st.length = l.length := by simp [ctsOf]
  rw [hst]
  exact ⟨drawn_ok (by omega) (by omega) h3, by simp only [conOf]; omega, by simp only [conOf]; omega, (toOf_lt hn.1 hi').1, (toOf_lt hn.1 hi').2⟩
theorem ctsOf_sta (ask : Bool) (l : List Tlk) (hd : List Bool) (hn : 2 ≤ l.length ∧ l.length ≤ 6) (tos : Nat → Nat) (htos : ∀ i (hi : i < l.length), tos i = toOf l.length i l[i]) (i : Nat) (s : Sta) (h : ((ctsOf ask l hd).st.map mkSta)[i]? = some s) :
    s.fin = 0 ∧ s.c.to = tos i ∧ 1 ≤ s.c.air ∧ s.c.air ≤ 6 := by
  have hi : i < l.length := by
    have := (List.getElem?_eq_some_iff.1 h).1
    simpa [ctsOf] using this
  have e : ((ctsOf ask l hd).st.map mkSta)[i]? = some (mkSta (conOf l.length i l[i])) := by simp [ctsOf, hi]
  rw [e] at h
  cases h
  have h6 := Int.emod_nonneg l[i].air (show (6 : Int) ≠ 0 by omega)
  have h7 := Int.emod_lt_of_pos l[i].air (show (0 : Int) < 6 by omega)
  refine ⟨rfl, (htos i hi).symm, ?_, ?_⟩ <;> simp only [mkSta, conOf] <;> omega
end Go.Proofs.YtmfdjipijifabaaDoor
end
section
/- Comparing bursts. -/
set_option linter.unusedVariables false
set_option linter.unusedSimpArgs false
set_option maxRecDepth 100000
namespace Go.Ab

theorem pr_bind {α β : Type} (P : Program) (x : Sem α) (f : α → Sem β) : pureRun P (x >>= f) = (pureRun P x).bind fun a => pureRun P (f a) := by
  induction x with
  | pure b => rfl
  | program k ih => exact ih P
  | mark m k ih => exact ih
  | _ => rfl
theorem pr_pure {α : Type} (P : Program) (a : α) : pureRun P (pure a) = some a := rfl
theorem pr_program (P : Program) : pureRun P program = some P := rfl
theorem pr_underlying {P : Program} {t : TypeId} {d : TypeDesc} (h : P.underlying t = some d) : pureRun P (underlying t) = some d := by
  unfold underlying
  rw [pr_bind, pr_program]
  simp only [Option.bind_some]
  rw [h]
  rfl
theorem pr_equalIn_struct {P : Program} (d : Nat) (t : TypeId) (xs ys : Array Value) (ht : P.underlying t = some (.struct (P.fieldsOf t))) (hp : P.stoodInHeld t = false) :
    pureRun P (Op.equalIn (d + 1) t (.agg xs) (.agg ys)) = pureRun P (Op.eqFields d xs ys (P.fieldsOf t).toList) := by
  simp only [Op.equalIn, pr_bind, pr_underlying ht, Option.bind_some, pr_program, hp, Bool.false_eq_true, if_false]
  rw [← Array.forIn_toList]
  generalize (P.fieldsOf t).toList = fs
  clear ht
  induction fs with
  | nil => rfl
  | cons f fs ih =>
    simp only [List.forIn_cons, Op.eqFields]
    split
    · simp only [pr_bind]
      cases pureRun P (part f.type xs f.offset) with
      | none => rfl
      | some a =>
        simp only [Option.bind_some]
        cases pureRun P (part f.type ys f.offset) with
        | none => rfl
        | some b =>
          simp only [Option.bind_some]
          cases pureRun P (Op.equalIn d f.type a b) with
          | none => rfl
          | some r =>
            cases r with
            | true => simpa [pr_bind, pr_pure] using ih
            | false => rfl
    · simpa [pr_bind, pr_pure] using ih
theorem pr_equalIn_int {P : Program} (d : Nat) (t : TypeId) (k k' : IntKind) (a b : Int) (h : P.underlying t = some (.int k')) : pureRun P (Op.equalIn (d + 1) t (.int k a) (.int k b)) = some (a == b) := by
  simp only [Op.equalIn, pr_bind, pr_underlying h, Option.bind_some, if_true]
  rfl
theorem pr_equalIn_bool {P : Program} (d : Nat) (t : TypeId) (a b : Bool) (h : P.underlying t = some .bool) : pureRun P (Op.equalIn (d + 1) t (.bool a) (.bool b)) = some (a == b) := by
  simp only [Op.equalIn, pr_bind, pr_underlying h, Option.bind_some]
  rfl
theorem pr_part {P : Program} (t : TypeId) (cs : Array Value) (off : Nat) {v : Value} (h : pureRun P (isAgg t) = some false) (hc : cs[off]? = some v) : pureRun P (part t cs off) = some v := by
  unfold part
  rw [pr_bind, h]
  simp only [Option.bind_some, Bool.false_eq_true, if_false, hc]
  rfl
end Go.Ab
namespace Go.Proofs.YtmfdjipijifabaaDoor
open Go.Ab
theorem x44 : Tryd.prog.underlying 44 = some (.struct (Tryd.prog.fieldsOf 44)) := by kernel_rfl
theorem s44 : Tryd.prog.stoodInHeld 44 = false := by kernel_rfl
theorem g44 : Tryd.prog.eqGuardType Tryd.prog.depth 44 = false := by kernel_rfl
theorem fo44 : (Tryd.prog.fieldsOf 44).toList.map (fun f => (f.name != "_", f.type, f.offset)) = [(true, 3, 0), (true, 3, 1), (true, 3, 2), (true, 4, 3), (true, 4, 4)] := by kernel_rfl
theorem pa3 : pureRun Tryd.prog (isAgg 3) = some false := by kernel_rfl
theorem pa4 : pureRun Tryd.prog (isAgg 4) = some false := by kernel_rfl
def eBurV (b : Bur) : Array Value := #[.int .i64 b.who, .int .i64 b.start, .int .i64 b.fin, .bool b.asked, .bool b.good]
theorem part0 (b : Bur) : pureRun Tryd.prog (part 3 (eBurV b) 0) = some (.int .i64 b.who) := pr_part 3 (eBurV b) 0 pa3 rfl
theorem part1 (b : Bur) : pureRun Tryd.prog (part 3 (eBurV b) 1) = some (.int .i64 b.start) := pr_part 3 (eBurV b) 1 pa3 rfl
theorem part2 (b : Bur) : pureRun Tryd.prog (part 3 (eBurV b) 2) = some (.int .i64 b.fin) := pr_part 3 (eBurV b) 2 pa3 rfl
theorem part3 (b : Bur) : pureRun Tryd.prog (part 4 (eBurV b) 3) = some (.bool b.asked) := pr_part 4 (eBurV b) 3 pa4 rfl
theorem part4 (b : Bur) : pureRun Tryd.prog (part 4 (eBurV b) 4) = some (.bool b.good) := pr_part 4 (eBurV b) 4 pa4 rfl
theorem pr_eq44 (a b : Bur) : pureRun Tryd.prog (Op.equal 44 (.agg (eBurV a)) (.agg (eBurV b))) = some (decide (a = b)) := by
  unfold Op.equal
  rw [show Op.maxDepth = 9998 + 1 + 1 from rfl, pr_equalIn_struct _ _ _ _ x44 s44]
  have hf := fo44
  simp only [List.map_eq_cons_iff, List.map_eq_nil_iff, Prod.mk.injEq, bne_iff_ne] at hf
  obtain ⟨f0, r0, e0, ⟨n0, t0, o0⟩, f1, r1, e1, ⟨n1, t1, o1⟩, f2, r2, e2, ⟨n2, t2, o2⟩, f3, r3, e3, ⟨n3, t3, o3⟩, f4, r4, e4, ⟨n4, t4, o4⟩, e5⟩ := hf
  rw [e0, e1, e2, e3, e4, e5]
  have u3 : Tryd.prog.underlying 3 = some (.int .i64) := by kernel_rfl
  have u4 : Tryd.prog.underlying 4 = some .bool := by kernel_rfl
  have i3 := fun x y => pr_equalIn_int 9998 3 .i64 .i64 x y u3
  have i4 := fun x y => pr_equalIn_bool 9998 4 x y u4
  have hab : decide (a = b) = (((a.who : Int) == b.who) && ((a.start == b.start) && ((a.fin == b.fin) && ((a.asked == b.asked) && (a.good == b.good))))) := by
    obtain ⟨a1, a2, a3, a4, a5⟩ := a
    obtain ⟨b1, b2, b3, b4, b5⟩ := b
    have h : ((a1 : Int) = b1) ↔ a1 = b1 := by omega
    rw [Bool.eq_iff_iff]
    simp [h]
  rw [hab]
  simp only [Op.eqFields, n0, n1, n2, n3, n4, t0, t1, t2, t3, t4, o0, o1, o2, o3, o4, ne_eq, not_false_eq_true, if_true, pr_bind, part0, part1, Option.bind_some, i3]
  cases (a.who : Int) == b.who with
  | false => rfl
  | true =>
    simp only [Bool.not_true, Bool.false_eq_true, if_false, pr_bind, part1, Option.bind_some, i3]
    cases a.start == b.start with
    | false => rfl
    | true =>
      simp only [Bool.not_true, Bool.false_eq_true, if_false, pr_bind, part2, Option.bind_some, i3]
      cases a.fin == b.fin with
      | false => rfl
      | true =>
        simp only [Bool.not_true, Bool.false_eq_true, if_false, pr_bind, part3, Option.bind_some, i4]
        cases a.asked == b.asked with
        | false => rfl
        | true =>
          simp only [Bool.not_true, Bool.false_eq_true, if_false, pr_bind, part4, Option.bind_some, i4]
          cases a.good == b.good with
          | false => rfl
          | true => rfl

theorem conc_bur (b : Bur) : (AVal.agg (eBur b)).conc = some (.agg (eBurV b)) := rfl
theorem exec_eq44 {ρ : Operand → Value} {o : Oper} (x y : Operand) (a b : Bur) (ho : o.op = .binOp .eql 44 x y 44) (hx : ρ x = .agg (eBurV a)) (hy : ρ y = .agg (eBurV b)) : pureRun Tryd.prog (execOp ρ o) = some (.value (.bool (decide (a = b)))) := by
  have g : pureRun Tryd.prog (eqGuard .eql 44 x y (.agg (eBurV a)) (.agg (eBurV b))) = some () := by
    unfold eqGuard
    simp only [Bool.not_true, Bool.false_eq_true, if_false, pr_bind, pr_program, Option.bind_some, g44, Bool.not_false, if_true]
    rfl
  unfold execOp
  rw [ho]
  simp only [hx, hy, pr_bind, g, Option.bind_some]
  have := pr_eq44 a b
  unfold binOp
  simp only [pr_bind, this, Option.bind_some]
  rfl
theorem exec_ne44 {ρ : Operand → Value} {o : Oper} (x y : Operand) (a b : Bur) (ho : o.op = .binOp .neq 44 x y 44) (hx : ρ x = .agg (eBurV a)) (hy : ρ y = .agg (eBurV b)) : pureRun Tryd.prog (execOp ρ o) = some (.value (.bool (!decide (a = b)))) := by
  have g : pureRun Tryd.prog (eqGuard .neq 44 x y (.agg (eBurV a)) (.agg (eBurV b))) = some () := by
    unfold eqGuard
    simp only [Bool.not_true, Bool.false_eq_true, if_false, pr_bind, pr_program, Option.bind_some, g44, Bool.not_false, if_true]
    rfl
  unfold execOp
  rw [ho]
  simp only [hx, hy, pr_bind, g, Option.bind_some]
  have := pr_eq44 a b
  unfold binOp
  simp only [pr_bind, this, Option.bind_some]
  rfl
theorem gen_two {env : Nat → AVal} {o : Oper} {op : BinOp} (x y : Operand) {u v : Value} {r : Value} (ho : o.op = .binOp op 44 x y 44) (hx : (opd C env x).conc = some u) (hy : (opd C env y).conc = some v)
    (h : ∀ ρ : Operand → Value, ρ x = u → ρ y = v → pureRun Tryd.prog (execOp ρ o) = some (.value r)) : genericA C o env = some (AVal.ofValue r) := by
  unfold genericA
  rw [ho]
  have h0 : ((Op.binOp op 44 x y 44).operands.toList.all fun x => ((opd C env x).conc).isSome) = true := by
    show ([x, y].all fun x => ((opd C env x).conc).isSome) = true
    rw [List.all_cons, List.all_cons, List.all_nil, hx, hy]
    rfl
  rw [if_pos h0]
  have hp := h (fun z => ((opd C env z).conc).getD undef) (by simp only [hx, Option.getD_some]) (by simp only [hy, Option.getD_some])
  have : pureRun C.P (execOp (fun z => ((opd C env z).conc).getD undef) o) = _ := hp
  rw [this]
theorem gen_eq44 {env : Nat → AVal} {o : Oper} (i j : Nat) (a b : Bur) (ho : o.op = .binOp .eql 44 (.tmp i) (.tmp j) 44) (hx : env i = .agg (eBur a)) (hy : env j = .agg (eBur b)) : genericA C o env = some (.bool (decide (a = b))) :=
  gen_two (u := .agg (eBurV a)) (v := .agg (eBurV b)) (.tmp i) (.tmp j) ho (by show (env i).conc = _; rw [hx]; rfl) (by show (env j).conc = _; rw [hy]; rfl) fun ρ h1 h2 => exec_eq44 _ _ a b ho h1 h2
theorem gen_ne44 {env : Nat → AVal} {o : Oper} (i j : Nat) (a b : Bur) (ho : o.op = .binOp .neq 44 (.tmp i) (.tmp j) 44) (hx : env i = .agg (eBur a)) (hy : env j = .agg (eBur b)) : genericA C o env = some (.bool (!decide (a = b))) :=
  gen_two (u := .agg (eBurV a)) (v := .agg (eBurV b)) (.tmp i) (.tmp j) ho (by show (env i).conc = _; rw [hx]; rfl) (by show (env j).conc = _; rw [hy]; rfl) fun ρ h1 h2 => exec_ne44 _ _ a b ho h1 h2
end Go.Proofs.YtmfdjipijifabaaDoor
end
section
/- A station alone with its receiver. -/
set_option linter.unusedVariables false
set_option linter.unusedSimpArgs false
set_option linter.unnecessarySimpa false
set_option maxRecDepth 100000
namespace Go.Proofs.YtmfdjipijifabaaDoor
open Go.Ab

def l2 : List Tlk := [⟨0, 0, 2, 3, 1, 0⟩, ⟨0, 0, 0, 0, 0, 0⟩]
def h2 : List Bool := [false, true, true, false]
def b2 : List Bur := [⟨0, 0, 4, false, true⟩, ⟨0, 4, 8, false, true⟩]
theorem run2 : (runR (ctsOf false l2 h2).h false ((ctsOf false l2 h2).st.map mkSta) [] 8).out = b2 := by decide
theorem on2 : onL b2 b2[1] 1 0 b2.length = [⟨0, 36, 72, -820⟩] := by decide
theorem rec2 : recW (airOf l2 h2) [⟨0, 36, 72, -820⟩] 0 = [1] := by decide

theorem c4 (k : Nat) (hk : 400 ≤ k) (m : Mem) : cCall C T k 4 [] m = some (.bool true, m) := by
  refine pure_call kd4 399 hk (args' := []) rfl fun k hk => ?_
  rw [body4]
  have g5 := c5 k (by omega) (.imm 2 (l2.flatMap eTlk)) (.imm 4 (h2.flatMap eBool)) l2 h2 (.inr rfl) (.inr rfl) false (by decide) (by decide)
  simp [codeOf, Tryd.f4, buildSliceA, zeros, List.range, List.range.loop, m0_mode, sz58, ag58]
  generalize hM1 : Mem.mk _ _ _ _ = M1
  have c4 : cellsAt M1 4 0 (2 * 6) = some (l2.flatMap eTlk) := by rw [← hM1]; rfl
  have c5' : cellsAt M1 5 0 (4 * 1) = some (h2.flatMap eBool) := by rw [← hM1]; rfl
  have d4 : M1.mode 4 ≠ .dead := by rw [← hM1]; simp [upd]
  have d5 : M1.mode 5 ≠ .dead := by rw [← hM1]; simp [upd]
  have f : ∀ id, 5 < id → M1.mode id = .dead := fun id h => by
    rw [← hM1]
    simp only [upd]
    rw [if_neg (by omega), if_neg (by omega), m0_mode, if_neg (by intro h; have := h.1; simp at this; omega)]
  have n1 : M1.next = 16 := by rw [← hM1]
  have hl : ∀ m, freezeL (freezeV 7) (l2.flatMap eTlk) m = some (l2.flatMap eTlk, m) := fun m => rfl
  have hl' : ∀ m, freezeL (freezeV 7) (h2.flatMap eBool) m = some (h2.flatMap eBool, m) := fun m => rfl
  have z5 : freezeL (freezeV 8) [.own 4 0 2 6, .own 5 0 4 1, .bool false] M1 = some ([.imm 2 (l2.flatMap eTlk), .imm 4 (h2.flatMap eBool), .bool false], { M1 with mode := upd (upd M1.mode 4 .ro) 5 .ro }) := by
    simp only [freezeL]
    rw [freezeV, if_neg d4, c4]
    simp only [hl]
    rw [freezeV, if_neg (by simp [upd]; exact d5)]
    have : cellsAt { M1 with mode := upd M1.mode 4 .ro } 5 0 (4 * 1) = some (h2.flatMap eBool) := c5'
    rw [this]
    simp only [hl']
    rfl
  obtain ⟨S, H, hE, hE8, fS, fH⟩ : ∃ S H, eCts (ctsOf false l2 h2) = [S, H, .bool false, .int .i64 0] ∧ eCts { ctsOf false l2 h2 with slots := 8 } = [S, H, .bool false, .int .i64 8] ∧ (∀ d m, freezeV (d + 1) S m = some (S, m)) ∧ (∀ d m, freezeV (d + 1) H m = some (H, m)) := ⟨_, _, rfl, rfl, fun d m => rfl, fun d m => rfl⟩
  obtain ⟨R, W, hW, fR, fW⟩ : ∃ R W, eAir (airOf l2 h2) = [R, W] ∧ (∀ d m, freezeV (d + 1) R m = some (R, m)) ∧ (∀ d m, freezeV (d + 1) W m = some (W, m)) := ⟨_, _, rfl, fun d m => rfl, fun d m => rfl⟩
  have g8 := fun m => c8 k _ (ctsOf_ok false l2 h2 (by decide) 8 (by omega)) (by decide) .nils [] (.inl ⟨rfl, .inl rfl⟩) (by simp) (by simp) (by simp [ctsOf, l2]; omega) [.agg [S, H, .bool false, .int .i64 8], .nils] m m (by rw [hE8]; simp [fS, fH])
  obtain ⟨o, nx, q1, q2, q3⟩ : ∃ (o : Mem → AVal) (nx : Mem → AVal), (∀ m, cCall C T k 8 [.agg [S, H, .bool false, .int .i64 8], .nils] m = some (.tup [o m, nx m, .int .i64 0], m)) ∧ (∀ m, SL eBur (o m) b2) ∧ ∀ m e m', freezeV (e + 1) (o m) m' = some (o m, m') := by
    obtain ⟨o, ho⟩ := Classical.axiomOfChoice g8
    obtain ⟨nx, hnx⟩ := Classical.axiomOfChoice ho
    refine ⟨o, nx, fun m => (hnx m).1, fun m => ?_, fun m => (hnx m).2.2⟩
    have := (hnx m).2.1
    exact run2 ▸ this
  have sl : ∀ m, o m = .imm 2 (b2.flatMap eBur) := fun m => by
    rcases q2 m with ⟨h, _⟩ | h
    · cases h
    · exact h
  simp only [sl] at q1 q3
  have eb2 : b2.flatMap eBur = [.int .i64 0, .int .i64 0, .int .i64 4, .bool false, .bool true, .int .i64 0, .int .i64 4, .int .i64 8, .bool false, .bool true] := rfl
  rw [eb2] at q1
  have hlen : lenA Tryd.prog 40 (.imm 2 (b2.flatMap eBur)) = some (.int .i64 2) := SL.len (P := Tryd.prog) Tryd.underlying40 (.inr rfl : SL eBur _ b2)
  have hix : indexAddrA Tryd.prog 40 (.imm 2 (b2.flatMap eBur)) (.int .i64 1) = _ := SL.indexAddr (P := Tryd.prog) Tryd.underlying40 sz44 eBur_len (.inr rfl : SL eBur _ b2) (k := .i64) (i := 1) (by decide)
  have g10 := fun m => c10 k (.imm 2 (b2.flatMap eBur)) b2 (.inr rfl) 1 (by decide) 0 (by omega) (by decide) (by decide) (by simp [b2]; omega) [.imm 2 (b2.flatMap eBur), .int .i64 1, .int .i64 0] m m (by simp)
  obtain ⟨o10, ho10⟩ := Classical.axiomOfChoice g10
  have g11 : ∀ m, cCall C T k 11 [.agg [R, W], o10 m, .nils] m = some (.tup [.imm 1 [.imm 1 [.int .i64 1]], .int .i64 0], m) := fun m => by
    obtain ⟨S', h1, h2, h3⟩ := c11 k (airOf Go.Proofs.YtmfdjipijifabaaDoor.l2 Go.Proofs.YtmfdjipijifabaaDoor.h2) (airOf_ok _ _ (by decide)) (o10 m) [⟨0, 36, 72, -820⟩] (by have := (ho10 m).2.1; exact on2 ▸ this) (by refine ⟨by decide, by decide, fun i j hi hj => ?_⟩; simp at hi; omega) (by decide) (fun m' => (ho10 m).2.2 7 m') (by simp [airOf, Go.Proofs.YtmfdjipijifabaaDoor.l2]; omega) [.agg [R, W], o10 m, .nils] m m (by rw [hW]; simp [fR, fW, (ho10 m).2.2 7 m])
    have h4 := h3 0 (by rw [h2]; decide)
    rw [rec2] at h4
    match S', h2 with
    | [x], _ =>
      rcases h4 with ⟨h, _⟩ | h
      · cases h
      · have h5 : x = .imm 1 [.int .i64 1] := h
        rw [h1, h5]
        rfl
  rw [eb2] at hlen hix ho10
  have hl31 : lenA Tryd.prog 31 (.imm 1 [.imm 1 [.int .i64 1]]) = some (.int .i64 1) := SL.len (P := Tryd.prog) (enc := fun x : AVal => [x]) (l := [.imm 1 [.int .i64 1]]) Tryd.underlying31 (.inr rfl)
  have hix31 : indexAddrA Tryd.prog 31 (.imm 1 [.imm 1 [.int .i64 1]]) (.int .i64 0) = some (.iptr [.imm 1 [.int .i64 1]]) := SL.indexAddr (P := Tryd.prog) (enc := fun x : AVal => [x]) (l := [.imm 1 [.int .i64 1]]) Tryd.underlying31 sz24 (fun _ => rfl) (.inr rfl) (k := .i64) (i := 0) (by decide)
  have geq : ∀ (env : Nat → AVal) (o : Oper), o.op = .binOp .eql 44 (.tmp 45) (.tmp 46) 44 → env 45 = .agg [.int .i64 0, .int .i64 4, .int .i64 8, .bool false, .bool true] → env 46 = .agg [.int .i64 0, .int .i64 4, .int .i64 8, .bool false, .bool true] → genericA C o env = some (.bool true) :=
    fun env o h1 h2 h3 => gen_eq44 45 46 ⟨0, 4, 8, false, true⟩ ⟨0, 4, 8, false, true⟩ h1 h2 h3
  have ld44 := fun m => load_iptr_agg (P := Tryd.prog) (t := 44) (m := m) (cs := [.int .i64 0, .int .i64 4, .int .i64 8, .bool false, .bool true]) (r := []) ag44 sz44 rfl
  simp at ld44
  simp [g5 _ _ _ z5, hE, hW, f, n1, q1, hlen, hix, eBur, b2, ho10, g11, ld44, geq, hl31, hix31, ld24, buildSliceA, zeros, List.range, List.range.loop]
  generalize hM2 : Mem.mk _ _ _ _ = M2
  have c65 : cellsAt M2 65 0 (1 * 1) = some [.int .i64 1] := by rw [← hM2]; rfl
  have d65 : M2.mode 65 ≠ .dead := by rw [← hM2]; simp [upd]
  have z14 : freezeL (freezeV 8) [.imm 1 [.int .i64 1], .own 65 0 1 1] M2 = some ([.imm 1 [.int .i64 1], .imm 1 [.int .i64 1]], { M2 with mode := upd M2.mode 65 .ro }) := by
    simp only [freezeL]
    rw [show freezeV 8 (.imm 1 [.int .i64 1]) M2 = some (.imm 1 [.int .i64 1], M2) from rfl]
    simp only []
    rw [freezeV, if_neg d65, c65]
    rfl
  have g14 := c14 k _ _ [1] [1] (.inr rfl) (.inr rfl) (by simp; omega) _ _ _ z14 (by simp)
  simp [g14]
end Go.Proofs.YtmfdjipijifabaaDoor
end
section
/- The law of the contest: the walk. -/
set_option linter.unusedVariables false
set_option linter.unusedSimpArgs false
set_option linter.unnecessarySimpa false
set_option maxRecDepth 100000
namespace Go.Proofs.YtmfdjipijifabaaDoor
open Go.Ab

theorem SL.fz {α : Type} {enc : α → List AVal} {a : AVal} {l : List α} (h : SL enc a l) (e : Nat) (m : Mem) : freezeV (e + 1) a m = some (a, m) := by
  rcases h with ⟨_, rfl | rfl⟩ | rfl <;> rfl

/-- The world and the contest, as they lie in memory. -/
structure M3 (p q : Nat) (S H R W : AVal) (ask : Bool) (sl : Int) (m : Mem) : Prop where
  m1 : m.mode p = .rw
  m2 : m.mode q = .rw
  c1 : m.cell p 0 = some S ∧ m.cell p 1 = some H ∧ m.cell p 2 = some (.bool ask) ∧ m.cell p 3 = some (.int .i64 sl)
  c2 : m.cell q 0 = some R ∧ m.cell q 1 = some W
  fresh : Fresh m
  nx : p < m.next ∧ q < m.next ∧ p ≠ q
theorem M3.grow {p q : Nat} {S H R W : AVal} {ask : Bool} {sl : Int} {m m' : Mem} (h : M3 p q S H R W ask sl m) (g : Grow m m') : M3 p q S H R W ask sl m' := by
  have h1 := g.cell p h.nx.1
  have h2 := g.cell q h.nx.2.1
  have h3 := g.next
  exact ⟨by rw [g.mode p h.nx.1]; exact h.m1, by rw [g.mode q h.nx.2.1]; exact h.m2, by rw [h1]; exact h.c1, by rw [h2]; exact h.c2, g.dead h.fresh, ⟨by have := h.nx.1; omega, by have := h.nx.2.1; omega, h.nx.2.2⟩⟩

/-- A list grows; the world stays. -/
theorem M3.push {α : Type} {enc : α → List AVal} {sz p q : Nat} {S H R W s : AVal} {ask : Bool} {sl : Int} {m M2 : Mem} {l : List α} {P : Program} {t e : TypeId} {i : TypeInfo} {z : List AVal} (hM : M3 p q S H R W ask sl m)
    (he : ∀ x, (enc x).length = sz) (hu : P.underlying t = some (.slice e)) (hi : P.info? e = some i) (hs : i.size = sz) (hb : i.bytes ≤ 100000) (hz : zeroA P e = some z) (hzl : z.length = sz) (hpos : 0 < sz)
    (hA : App enc sz s l 32 m) (hpq' : p < 32 ∧ q < 32) (hlo : 32 ≤ m.next) (hl : l.length < 2 ^ 20) {a a1 b : Nat} {v : α} (hL : Lay m a b (enc v) M2) (ha1 : a1 = a + 1) (hab : a1 < b) :
    ∃ m', appendA P t t s (.own (m.next + a) 0 1 sz) M2 (m.next + a1) = some (.own (m.next + a1) 0 (l.length + 1) sz, m') ∧ App enc sz (.own (m.next + a1) 0 (l.length + 1) sz) (l ++ [v]) 32 m' ∧ m'.next = m.next + b ∧ M3 p q S H R W ask sl m' ∧
      (∀ id, id < m.next → (∀ n, s ≠ .own id 0 n sz) → m'.cell id = m.cell id ∧ m'.mode id = m.mode id ∧ m'.siz id = m.siz id) := by
  subst ha1
  obtain ⟨m', a1, a2, a3, a4, a5⟩ := App.push he hu hi hs hb hz hzl hpos hA hM.fresh hlo hl hL hab
  have low : ∀ id, id < 32 → m'.cell id = m.cell id ∧ m'.mode id = m.mode id ∧ m'.siz id = m.siz id := fun id hid => a5 id (by omega) (fun n e => by
    have := app_own hA e
    omega)
  obtain ⟨x1, x2, _⟩ := low p hpq'.1
  obtain ⟨y1, y2, _⟩ := low q hpq'.2
  refine ⟨m', a1, a2, a3, ⟨by rw [x2]; exact hM.m1, by rw [y2]; exact hM.m2, by rw [x1]; exact hM.c1, by rw [y1]; exact hM.c2, a4, by omega, by omega, hM.nx.2.2⟩, a5⟩

theorem M3.more {α : Type} {enc : α → List AVal} {sz p q : Nat} {S H R W s : AVal} {ask : Bool} {sl : Int} {m M2 : Mem} {l : List α} {P : Program} {t e : TypeId} {i : TypeInfo} {z : List AVal} (hM : M3 p q S H R W ask sl m)
    (he : ∀ x, (enc x).length = sz) (hu : P.underlying t = some (.slice e)) (hi : P.info? e = some i) (hs : i.size = sz) (hb : i.bytes ≤ 100000) (hz : zeroA P e = some z) (hzl : z.length = sz) (hpos : 0 < sz)
    (hA : App enc sz s l 32 m) (hpq' : p < 32 ∧ q < 32) (hl : l.length < 2 ^ 20) (g : Grow m M2) {xid new : Nat} {v : α} (hx : M2.mode xid ≠ .dead) (hxc : ∀ o, o < sz → M2.cell xid o = (enc v)[o]?) (hlo : 32 ≤ new) (hd : M2.mode new = .dead) (hn : new < M2.next) :
    ∃ m', appendA P t t s (.own xid 0 1 sz) M2 new = some (.own new 0 (l.length + 1) sz, m') ∧ App enc sz (.own new 0 (l.length + 1) sz) (l ++ [v]) 32 m' ∧ m'.next = M2.next ∧ M3 p q S H R W ask sl m' := by
  have hA2 := hA.grow g
  have hM2 := hM.grow g
  obtain ⟨m', a1, a2, a3, a4, a5⟩ := App.more he hu hi hs hb hz hzl hpos hA2 hx hxc hlo hd hn hl
  have low : ∀ id, id < 32 → m'.cell id = M2.cell id ∧ m'.mode id = M2.mode id ∧ m'.siz id = M2.siz id := fun id hid => a4 id (by omega) (fun n e => by
    have := app_own hA e
    omega)
  obtain ⟨x1, x2, _⟩ := low p hpq'.1
  obtain ⟨y1, y2, _⟩ := low q hpq'.2
  refine ⟨m', a1, a2, a3, ⟨by rw [x2]; exact hM2.m1, by rw [y2]; exact hM2.m2, by rw [x1]; exact hM2.c1, by rw [y1]; exact hM2.c2, fun id hid => a5 id (by omega) (hM2.fresh id (by omega)), ?_⟩⟩
  have := hM2.nx
  rw [a3]
  exact this

/-- What freezing a list does to the modes. -/
def fzMd (s : AVal) (md : Nat → Md) : Nat → Md := match s with
  | .own id _ _ _ => upd md id .ro
  | _ => md
theorem fzMd_idem (s : AVal) (md : Nat → Md) : fzMd s (fzMd s md) = fzMd s md := by
  cases s <;> try rfl
  funext i
  simp only [fzMd, upd]
  split <;> rfl
theorem fzMd_live (s : AVal) (md : Nat → Md) {id : Nat} (h : md id ≠ .dead) : fzMd s md id ≠ .dead := by
  cases s <;> try exact h
  simp only [fzMd, upd]
  split
  · simp
  · exact h
theorem App.fzMd_other {α : Type} {enc : α → List AVal} {sz lo : Nat} {s : AVal} {l : List α} {m0 : Mem} (h : App enc sz s l lo m0) (md : Nat → Md) {id : Nat} (hid : id < lo ∨ m0.next ≤ id) : fzMd s md id = md id := by
  rcases h with ⟨_, rfl⟩ | ⟨id', rfl, h2, h3, _⟩
  · rfl
  · exact if_neg (by omega)
/-- A list that was made, and that nothing changed since. -/
def Kept (sz : Nat) (s : AVal) (n : Nat) (m0 m : Mem) : Prop := ∀ id k, s = .own id 0 k sz → m.mode id ≠ .dead ∧ ∀ o, o < n * sz → m.cell id o = m0.cell id o
theorem App.fzm {α : Type} {enc : α → List AVal} {sz lo : Nat} {s : AVal} {l : List α} {m0 : Mem} (h : App enc sz s l lo m0) (he : ∀ x, (enc x).length = sz) (hin : ∀ x : α, ∀ a ∈ enc x, ∀ m, freezeV 7 a m = some (a, m)) :
    ∃ a', SL enc a' l ∧ ∀ m, Kept sz s l.length m0 m → freezeV 8 s m = some (a', { m with mode := fzMd s m.mode }) := by
  rcases h with ⟨rfl, rfl⟩ | ⟨id, rfl, h2, h3, h4, h5, h6⟩
  · exact ⟨.nils, .inl ⟨rfl, .inl rfl⟩, fun m _ => rfl⟩
  · refine ⟨.imm l.length (l.flatMap enc), .inr rfl, fun m hk => ?_⟩
    obtain ⟨k1, k2⟩ := hk id _ rfl
    have hfl := flatMap_len he l
    have hc : cellsAt m id 0 (l.length * sz) = some (l.flatMap enc) := by
      have := cellsAt_of (m := m) (id := id) (l.flatMap enc) 0 (fun o ho => by rw [Nat.zero_add, k2 o (by rw [hfl] at ho; exact ho)]; exact h6 o (by rw [hfl] at ho; exact ho))
      rwa [hfl] at this
    have hl : ∀ (L : List α) m, freezeL (freezeV 7) (L.flatMap enc) m = some (L.flatMap enc, m) := by
      intro L
      have hl1 : ∀ (cs : List AVal), (∀ a ∈ cs, ∀ m, freezeV 7 a m = some (a, m)) → ∀ m, freezeL (freezeV 7) cs m = some (cs, m) := by
        intro cs
        induction cs with
        | nil => intro _ m; rfl
        | cons c cs ih =>
          intro h m
          have h1 := h c (by simp) m
          have h2 := ih (fun a ha => h a (by simp [ha])) m
          simp only [freezeL, h1, h2]
      exact hl1 _ (fun a ha => by
        obtain ⟨x, _, hx⟩ := List.mem_flatMap.1 ha
        exact hin x a hx)
    rw [freezeV, if_neg k1, hc]
    simp only [hl]
    rfl
theorem Kept.refl {α : Type} {enc : α → List AVal} {sz lo : Nat} {s : AVal} {l : List α} {m0 : Mem} (h : App enc sz s l lo m0) : Kept sz s l.length m0 m0 := fun id k e => by
  rcases h with ⟨_, rfl⟩ | ⟨id', rfl, h2, h3, h4, _⟩
  · cases e
  · cases e
    exact ⟨by rw [h4]; simp, fun o _ => rfl⟩
theorem Kept.same {sz n : Nat} {s : AVal} {m0 m m' : Mem} (h : Kept sz s n m0 m) (hc : ∀ id k, s = .own id 0 k sz → m'.cell id = m.cell id) (hm : ∀ id k, s = .own id 0 k sz → m.mode id ≠ .dead → m'.mode id ≠ .dead) : Kept sz s n m0 m' := fun id k e => by
  obtain ⟨a, b⟩ := h id k e
  exact ⟨hm id k e a, fun o ho => by rw [hc id k e]; exact b o ho⟩

theorem M3.chg {p q : Nat} {S H R W : AVal} {ask : Bool} {sl sl' : Int} {m m' : Mem} (h : M3 p q S H R W ask sl m) (hm : ∀ id, id = p ∨ id = q ∨ m.next ≤ id → m'.mode id = m.mode id) (hn : m.next ≤ m'.next) (h1 : ∀ o, o < 3 → m'.cell p o = m.cell p o) (h2 : m'.cell p 3 = some (.int .i64 sl')) (h3 : m'.cell q = m.cell q) : M3 p q S H R W ask sl' m' :=
  ⟨by rw [hm p (.inl rfl)]; exact h.m1, by rw [hm q (.inr (.inl rfl))]; exact h.m2, ⟨by rw [h1 0 (by omega)]; exact h.c1.1, by rw [h1 1 (by omega)]; exact h.c1.2.1, by rw [h1 2 (by omega)]; exact h.c1.2.2.1, h2⟩, by rw [h3]; exact h.c2, fun id hid => by rw [hm id (.inr (.inr (by omega)))]; exact h.fresh id (by omega), ⟨by have := h.nx.1; omega, by have := h.nx.2.1; omega, h.nx.2.2⟩⟩

set_option maxHeartbeats 4000000 in
theorem c3b (k : Nat) (hk : 3000 ≤ k) (a hv dv : AVal) (l : List Tlk) (hd : List Bool) (dr : List Int) (ha : SL eTlk a l) (hh : SL eBool hv hd) (hdv : SL eInt dv dr) (ask : Bool) (slots fro : Int) :
    fzd (cBody C (cCall C T k) (T 3) k 3 [a, hv, .bool ask, .int .i64 slots, .int .i64 fro, dv] C.m0) = some (.bool true) := by
  rw [body3]
  have g4 := c4 k (by omega)
  have hla := SL.len (P := Tryd.prog) Tryd.underlying22 ha
  have hlh := SL.len (P := Tryd.prog) Tryd.underlying23 hh
  have hld := SL.len (P := Tryd.prog) Tryd.underlying24 hdv
  by_cases hn1 : l.length < 2
  · have hn1' : (l.length : Int) < 2 := by omega
    simp [codeOf, Tryd.f3, g4, hla, hn1']
  have hn1' : ¬ (l.length : Int) < 2 := by omega
  by_cases hn2 : 6 < l.length
  · have hn2' : 6 < (l.length : Int) := by omega
    simp [codeOf, Tryd.f3, g4, hla, hn1', hn2']
  have hn2' : ¬ 6 < (l.length : Int) := by omega
  by_cases hn3 : 36 < hd.length
  · have hn3' : 36 < (hd.length : Int) := by omega
    simp [codeOf, Tryd.f3, g4, hla, hn1', hn2', hlh, hn3']
  have hn3' : ¬ 36 < (hd.length : Int) := by omega
  by_cases hn4 : 300 < dr.length
  · have hn4' : 300 < (dr.length : Int) := by omega
    simp [codeOf, Tryd.f3, g4, hla, hn1', hn2', hlh, hn3', hld, hn4']
  have hn4' : ¬ 300 < (dr.length : Int) := by omega
  have hn : 2 ≤ l.length ∧ l.length ≤ 6 := by omega
  have g5 := fun m => c5 k (by omega) a hv l hd ha hh ask hn (by omega) [a, hv, .bool ask] m m (by simp [SL.fz ha, SL.fz hh])
  obtain ⟨S, hS⟩ : ∃ S, S = AVal.imm (ctsOf ask l hd).st.length ((ctsOf ask l hd).st.flatMap eCon) := ⟨_, rfl⟩
  obtain ⟨H, hH⟩ : ∃ H, H = AVal.imm (ctsOf ask l hd).h.length ((ctsOf ask l hd).h.flatMap eBRow) := ⟨_, rfl⟩
  have hE : ∀ s : Int, eCts { ctsOf ask l hd with slots := s } = [S, H, .bool ask, .int .i64 s] := fun s => by rw [hS, hH]; rfl
  have fS : ∀ d m, freezeV (d + 1) S m = some (S, m) := fun d m => by rw [hS]; rfl
  have fH : ∀ d m, freezeV (d + 1) H m = some (H, m) := fun d m => by rw [hH]; rfl
  have hE0 : eCts (ctsOf ask l hd) = [S, H, .bool ask, .int .i64 0] := hE 0
  obtain ⟨R, W, hW, fR, fW⟩ : ∃ R W, eAir (airOf l hd) = [R, W] ∧ (∀ d m, freezeV (d + 1) R m = some (R, m)) ∧ (∀ d m, freezeV (d + 1) W m = some (W, m)) := ⟨_, _, rfl, fun d m => rfl, fun d m => rfl⟩
  rw [hE0, hW] at g5
  simp [codeOf, Tryd.f3, g4, hla, hn1', hn2', hlh, hn3', hld, hn4', g5, m0_mode]
  have F := fits_of ask l hd hn
  have hwok := airOf_ok l hd hn
  have hwl : (airOf l hd).rs.length = l.length := F.len
  have hhl : (ctsOf ask l hd).h.length = l.length := by simp [ctsOf]
  have hhr : ∀ j (hj : j < (ctsOf ask l hd).h.length), (ctsOf ask l hd).h[j].length = l.length := fun j hj => by simp [ctsOf]
  have hbx : ∀ j (hj : j < (ctsOf ask l hd).h.length), indexAddrA Tryd.prog 27 H (.int .i64 j) = some (.iptr (.imm (ctsOf ask l hd).h[j].length ((ctsOf ask l hd).h[j].flatMap eBool) :: ((ctsOf ask l hd).h.drop (j + 1)).flatMap eBRow)) := fun j hj => by
    rw [hH]; exact (sl_imm eBRow (ctsOf ask l hd).h).indexAddr (P := Tryd.prog) Tryd.underlying27 sz23 eBRow_len (k := .i64) hj
  have hrow : ∀ j (hj : j < (ctsOf ask l hd).h.length) i (hi : i < (ctsOf ask l hd).h[j].length), indexAddrA Tryd.prog 23 (.imm (ctsOf ask l hd).h[j].length ((ctsOf ask l hd).h[j].flatMap eBool)) (.int .i64 i) = some (.iptr (.bool (ctsOf ask l hd).h[j][i] :: ((ctsOf ask l hd).h[j].drop (i + 1)).flatMap eBool)) := fun j hj i hi =>
    (sl_imm eBool (ctsOf ask l hd).h[j]).indexAddr (P := Tryd.prog) Tryd.underlying23 sz4 eBool_len (k := .i64) hi
  have hval : ∀ i j (hi : i < l.length) (hj : j < l.length) (h1 : j < (ctsOf ask l hd).h.length) (h2 : i < (ctsOf ask l hd).h[j].length), (ctsOf ask l hd).h[j][i] = (airOf l hd).hear i j := fun i j hi hj h1 h2 => by
    rw [F.hear i j hi hj]
    simp [hr, h1, h2]
  have g6 := fun i j (hi : i < l.length) (hj : j < l.length) m => c6 k (airOf l hd) hwok i j (by omega) (by omega) (by omega) m
  rw [hW] at g6
  generalize hl' : cCode C _ _ _ (.loop _) _ = r
  obtain ⟨e, s', rfl, he, hp⟩ := loop_rule hl' (fun q s => s.env 0 = a ∧ s.env 2 = .bool ask ∧ s.env 3 = .int .i64 slots ∧ s.env 4 = .int .i64 fro ∧ s.env 5 = dv ∧ s.env 13 = .ptr 30 0 ∧ s.env 14 = .ptr 31 0 ∧ s.env 75 = .int .i64 l.length ∧
      ∃ i, i + q = l.length ∧ s.env 76 = .int .i64 (i : Nat) ∧ M3 30 31 S H R W ask 0 s.mem)
    (fun e s => e = .exit 0 ∧ s.env 2 = .bool ask ∧ s.env 3 = .int .i64 slots ∧ s.env 4 = .int .i64 fro ∧ s.env 5 = dv ∧ s.env 13 = .ptr 30 0 ∧ s.env 14 = .ptr 31 0 ∧ M3 30 31 S H R W ask 0 s.mem) l.length (by omega) (by
      refine ⟨by simp, by simp, by simp, by simp, by simp, by simp, by simp, by simp, 0, by simp, by simp, ?_⟩
      generalize hM : St.mem _ = M
      simp only [] at hM
      refine ⟨by rw [← hM]; simp [upd], by rw [← hM]; simp [upd], by rw [← hM]; simp, by rw [← hM]; simp, ?_, by rw [← hM]; simp⟩
      intro id hid
      rw [← hM] at hid ⊢
      simp only [] at hid
      simp only [upd]
      rw [if_neg (by omega), if_neg (by omega), m0_mode, if_neg (by intro h; have := h.1; simp at this; omega)]) (by
      rintro q s ⟨e0, e2, e3, e4, e5, e13, e14, e75, i, hiq, e76, hM⟩
      by_cases hi : i < l.length
      · simp [e0, e2, e3, e4, e5, e13, e14, e75, e76, hi, hla]
        generalize hl2 : cCode C _ _ _ (.loop _) _ = r2
        obtain ⟨e, s3, rfl, he, hp⟩ := loop_rule hl2 (fun q s => s.env 0 = a ∧ s.env 2 = .bool ask ∧ s.env 3 = .int .i64 slots ∧ s.env 4 = .int .i64 fro ∧ s.env 5 = dv ∧ s.env 13 = .ptr 30 0 ∧ s.env 14 = .ptr 31 0 ∧ s.env 75 = .int .i64 l.length ∧ s.env 76 = .int .i64 (i : Nat) ∧ s.env 16 = .int .i64 (i : Nat) ∧ s.env 80 = .int .i64 l.length ∧
            ∃ j, j + q = l.length ∧ s.env 81 = .int .i64 (j : Nat) ∧ M3 30 31 S H R W ask 0 s.mem)
          (fun e s => e = .exit 2 ∧ s.env 0 = a ∧ s.env 2 = .bool ask ∧ s.env 3 = .int .i64 slots ∧ s.env 4 = .int .i64 fro ∧ s.env 5 = dv ∧ s.env 13 = .ptr 30 0 ∧ s.env 14 = .ptr 31 0 ∧ s.env 75 = .int .i64 l.length ∧ s.env 76 = .int .i64 (i : Nat) ∧ M3 30 31 S H R W ask 0 s.mem) l.length (by omega) (by
            exact ⟨by simp [e0], by simp [e2], by simp [e3], by simp [e4], by simp [e5], by simp [e13], by simp [e14], by simp [e75], by simp [e76], by simp, by simp, 0, by simp, by simp, hM.grow (Grow.bump _ _)⟩) (by
            rintro q s ⟨e0, e2, e3, e4, e5, e13, e14, e75, e76, e16, e80, j, hjq, e81, hM⟩
            by_cases hj : j < l.length
            · have wj : IntKind.i64.wrap ((j : Int) + 1) = ((j + 1 : Nat) : Int) := IntWalk.i64_in _ (by omega)
              have hjh : j < (ctsOf ask l hd).h.length := by omega
              have hih : i < (ctsOf ask l hd).h[j].length := by rw [hhr j hjh]; exact hi
              have x1 := hbx j hjh
              have x2 := hrow j hjh i hih
              have x3 := hval i j hi hj hjh hih
              have x4 := g6 i j hi hj
              have m1 := hM.m1
              have m2 := hM.m2
              obtain ⟨c10, c11', c12', c13'⟩ := hM.c1
              obtain ⟨c20, c21⟩ := hM.c2
              simp [e0, e2, e3, e4, e5, e13, e14, e75, e76, e16, e80, e81, hj, m1, m2, c10, c11', c20, c21, ag33, sz33, x1, x2, x3, x4, wj, load_iptr_one ag4 sz4, load_iptr_one ag23 sz23]
              exact ⟨by omega, j + 1, by omega, by omega, hM.grow (Grow.bump _ _)⟩
            · have : j = l.length := by omega
              subst this
              simp [e0, e2, e3, e4, e5, e13, e14, e75, e76, e16, e80, e81]
              exact hM.grow (Grow.bump _ _))
        obtain ⟨rfl, e0, e2, e3, e4, e5, e13, e14, e75, e76, hM⟩ := hp
        have wi : IntKind.i64.wrap ((i : Int) + 1) = ((i + 1 : Nat) : Int) := IntWalk.i64_in _ (by omega)
        simp [e0, e2, e3, e4, e5, e13, e14, e75, e76, wi]
        refine ⟨_, _, ⟨rfl, rfl⟩, ?_⟩
        simp [e0, e2, e3, e4, e5, e13, e14, e75, e76]
        exact ⟨by omega, i + 1, by omega, by simp, hM.grow (Grow.bump _ _)⟩
      · have : i = l.length := by omega
        subst this
        simp [e0, e2, e3, e4, e5, e13, e14, e75, e76]
        exact hM.grow (Grow.bump _ _))
  obtain ⟨rfl, e2, e3, e4, e5, e13, e14, hM⟩ := hp
  have g7 := fun x (m : Mem) => c7 k (by omega) x 4096 (by omega) (by omega) m
  simp [e2, e3, e4, e5, e13, e14, hld]
  generalize hl' : cCode C _ _ _ (.loop _) _ = r
  obtain ⟨e, s4, rfl, he, hp⟩ := loop_rule hl' (fun q s => s.env 2 = .bool ask ∧ s.env 3 = .int .i64 slots ∧ s.env 4 = .int .i64 fro ∧ s.env 107 = dv ∧ s.env 13 = .ptr 30 0 ∧ s.env 14 = .ptr 31 0 ∧ s.env 108 = .int .i64 dr.length ∧
      ∃ i, i + q = dr.length ∧ s.env 109 = .int .i64 (i : Nat) ∧ 32 ≤ s.mem.next ∧ M3 30 31 S H R W ask 0 s.mem ∧ App eInt 1 (s.env 20) ((dr.take i).map (· % 4096)) 32 s.mem)
    (fun e s => e = .exit 4 ∧ s.env 2 = .bool ask ∧ s.env 3 = .int .i64 slots ∧ s.env 4 = .int .i64 fro ∧ s.env 13 = .ptr 30 0 ∧ s.env 14 = .ptr 31 0 ∧ 32 ≤ s.mem.next ∧ M3 30 31 S H R W ask 0 s.mem ∧ App eInt 1 (s.env 20) (dr.map (· % 4096)) 32 s.mem) dr.length (by omega) (by
      refine ⟨by simp [e2], by simp [e3], by simp [e4], by simp [e5], by simp [e13], by simp [e14], by simp, 0, by simp, by simp, by have := hM.nx; show 32 ≤ s'.mem.next + _; omega, hM.grow (Grow.bump _ _), .inl ⟨by simp, by simp⟩⟩) (by
      rintro q s ⟨e2, e3, e4, e107, e13, e14, e108, i, hiq, e109, hnx, hM, hA⟩
      by_cases hi : i < dr.length
      · have hix := SL.indexAddr (P := Tryd.prog) Tryd.underlying24 sz3 eInt_len hdv (k := .i64) hi
        have hfr : ∀ n, s.mem.mode (s.mem.next + n) = .dead := fun n => hM.fresh _ (by omega)
        have wi : IntKind.i64.wrap ((i : Int) + 1) = ((i + 1 : Nat) : Int) := IntWalk.i64_in _ (by omega)
        have hix' : ∀ q r, (eInt q ++ r) = .int .i64 q :: r := fun _ _ => rfl
        simp [e2, e3, e4, e107, e13, e14, e108, e109, hi, hix, hix', load_iptr_one ag3 sz3, g7, hfr, buildSliceA, zeros, List.range, List.range.loop]
        generalize hM2 : Mem.mk _ _ _ _ = M2
        obtain ⟨inf, i1, i2, i3⟩ := inf3
        obtain ⟨m', a1, a2, a3, a4, a5⟩ := hM.push (P := Tryd.prog) (t := 24) eInt_len Tryd.underlying24 i1 i2 (by omega) zc3 rfl (by omega) hA (by omega) hnx (by simp; omega) (a := 7) (a1 := 8) (b := 10) (v := dr[i] % 4096) (M2 := M2) (by rw [← hM2]; exact Lay.alloc s.mem (eInt (dr[i] % 4096)) 7 10 1 (by omega)) rfl (by omega)
        have htk : (dr.take (i + 1)).map (· % 4096) = (dr.take i).map (· % 4096) ++ [dr[i] % 4096] := by
          rw [List.take_succ_eq_append_getElem hi, List.map_append]
          rfl
        rw [← htk] at a2
        simp [a1, e2, e3, e4, e107, e13, e14, e108, e109, wi]
        refine ⟨_, _, ⟨rfl, rfl⟩, ?_⟩
        simp [e2, e3, e4, e107, e13, e14, e108]
        refine ⟨by omega, i + 1, by omega, by simp, by omega, a4.grow (Grow.bump _ _), ?_⟩
        have := a2.grow (Grow.bump m' 2)
        simpa using this
      · have : i = dr.length := by omega
        subst this
        simp [e2, e3, e4, e107, e13, e14, e108, e109]
        rw [List.take_length] at hA
        exact ⟨by omega, hM.grow (Grow.bump _ _), hA.grow (Grow.bump _ _)⟩)
  obtain ⟨rfl, e2, e3, e4, e13, e14, hnx, hM, hA⟩ := hp
  have g7a := fun x (m : Mem) => c7 k (by omega) x 81 (by omega) (by omega) m
  have g7b := fun x (m : Mem) => c7 k (by omega) x 1073741824 (by omega) (by omega) m
  obtain ⟨en, hen⟩ : ∃ en : Nat, slots % 81 = (en : Int) := ⟨(slots % 81).toNat, by have := Int.emod_nonneg slots (show (81 : Int) ≠ 0 by omega); omega⟩
  have hen2 : en ≤ 80 := by have := Int.emod_lt_of_pos slots (show (0 : Int) < 81 by omega); omega
  obtain ⟨bg, hbg⟩ : ∃ bg : Int, fro % 1073741824 = bg := ⟨_, rfl⟩
  have hbg2 : 0 ≤ bg ∧ bg < 1073741824 := by have := Int.emod_nonneg fro (show (1073741824 : Int) ≠ 0 by omega); have := Int.emod_lt_of_pos fro (show (0 : Int) < 1073741824 by omega); omega
  obtain ⟨d', hd', fd⟩ := App.fzm hA eInt_len (fun x a ha m => by simp [eInt] at ha; subst ha; rfl)
  obtain ⟨ds, hds⟩ : ∃ ds, ds = dr.map (· % 4096) := ⟨_, rfl⟩
  rw [← hds] at hd' fd hA
  have hdr : ∀ d ∈ ds, 0 ≤ d ∧ d ≤ 1099511627776 := fun d hdm => by
    rw [hds] at hdm
    obtain ⟨x, _, rfl⟩ := List.mem_map.1 hdm
    have := Int.emod_nonneg x (show (4096 : Int) ≠ 0 by omega)
    have := Int.emod_lt_of_pos x (show (0 : Int) < 4096 by omega)
    omega
  have hdl : ds.length = dr.length := by rw [hds]; simp
  have hst : (ctsOf ask l hd).st.length = l.length := by simp [ctsOf]
  have hair : ∀ s ∈ (ctsOf ask l hd).st, s.air ≤ 6 := fun s hs => by
    obtain ⟨i, hi, rfl⟩ := List.mem_iff_getElem.1 hs
    have hi' : i < l.length := by omega
    have e : (ctsOf ask l hd).st[i] = conOf l.length i l[i] := by simp [ctsOf]
    rw [e]
    have := Int.emod_lt_of_pos l[i].air (show (0 : Int) < 6 by omega)
    simp only [conOf]
    omega
  have run : ∀ sl : Nat, sl ≤ 100 → ∃ o nx, (∀ m, Kept 1 (s4.env 20) ds.length s4.mem m → cCall C T k 8 [.agg [S, H, .bool ask, .int .i64 sl], s4.env 20] m = some (.tup [o, nx, .int .i64 0], { m with mode := fzMd (s4.env 20) m.mode })) ∧ SL eBur o (runR (ctsOf ask l hd).h ask ((ctsOf ask l hd).st.map mkSta) ds sl).out := fun sl hsl => by
    obtain ⟨o, nx, h1, h2, h3⟩ := c8 k { ctsOf ask l hd with slots := sl } (ctsOf_ok ask l hd hn sl (by omega)) hair d' ds hd' hdr (by omega) (by simp only [hst, hdl]; omega) [.agg [S, H, .bool ask, .int .i64 sl], d'] C.m0 C.m0 (by rw [hE]; simp [fS, fH, SL.fz hd'])
    refine ⟨o, nx, fun m hm => ?_, h2⟩
    exact pure_args kd8 h1 (by simp [fS, fH, SL.fz hd']) (by simp [fS, fH, fd m hm])
  obtain ⟨oS, nxS, g8a, hoS⟩ := run en (by omega)
  obtain ⟨oM, nxM, g8b, hoM⟩ := run (en + 12) (by omega)
  have m1 := hM.m1
  have m2 := hM.m2
  obtain ⟨c10, c11', c12', c13'⟩ := hM.c1
  obtain ⟨c20, c21⟩ := hM.c2
  simp [e2, e3, e4, e13, e14, g7a, g7b, hen, hbg, m1, m2, c10, c11', c12', c13', ag29, sz29]
  generalize hM5 : Mem.mk _ _ _ _ = M5
  have hM5' : M3 30 31 S H R W ask en M5 := hM.chg (fun id _ => by rw [← hM5]) (by rw [← hM5]; simp) (fun o ho => by rw [← hM5]; exact if_neg (by omega)) (by rw [← hM5]; simp) (by rw [← hM5]; funext o; simp)
  have hown : ∀ id k, s4.env 20 = .own id 0 k 1 → 32 ≤ id ∧ id < s4.mem.next := fun id k e => app_own hA e
  have n5 : s4.mem.next ≤ M5.next := by rw [← hM5]; simp
  have hK5 : Kept 1 (s4.env 20) ds.length s4.mem M5 := (Kept.refl hA).same (fun id k e => by have := hown id k e; rw [← hM5]; funext o; exact if_neg (by omega)) (fun id k e h => by rw [← hM5]; exact h)
  have hK6 : Kept 1 (s4.env 20) ds.length s4.mem { M5 with mode := fzMd (s4.env 20) M5.mode } := hK5.same (fun _ _ _ => rfl) (fun id k e h => fzMd_live _ _ h)
  have hM6 : M3 30 31 S H R W ask en { M5 with mode := fzMd (s4.env 20) M5.mode } := hM5'.chg (fun id hid => App.fzMd_other hA M5.mode (by omega)) (Nat.le_refl _) (fun _ _ => rfl) hM5'.c1.2.2.2 rfl
  simp only [g8a M5 hK5]
  generalize hM6e : Mem.mk _ _ _ _ = M6 at hK6 hM6
  have n6 : M5.next = M6.next := by rw [← hM6e]
  clear hM5 hM5' hK5 m1 m2 c10 c11' c12' c13' c20 c21
  have m1 := hM6.m1
  have m2 := hM6.m2
  obtain ⟨c10, c11', c12', c13'⟩ := hM6.c1
  obtain ⟨c20, c21⟩ := hM6.c2
  have wen : IntKind.i64.wrap ((en : Int) + 12) = ((en + 12 : Nat) : Int) := IntWalk.i64_in _ (by omega)
  simp [e2, e3, e4, e13, e14, m1, m2, c10, c11', c12', c13', ag29, sz29, wen]
  generalize hM7 : Mem.mk _ _ _ _ = M7
  have hM7' : M3 30 31 S H R W ask (en + 12 : Nat) M7 := hM6.chg (fun id _ => by rw [← hM7]) (by rw [← hM7]; simp) (fun o ho => by rw [← hM7]; exact if_neg (by omega)) (by rw [← hM7]; simp) (by rw [← hM7]; funext o; simp)
  have hK7 : Kept 1 (s4.env 20) ds.length s4.mem M7 := hK6.same (fun id k e => by have := hown id k e; rw [← hM7]; funext o; exact if_neg (by omega)) (fun id k e h => by rw [← hM7]; exact h)
  have n7 : M6.next ≤ M7.next := by rw [← hM7]; simp
  have hM8 : M3 30 31 S H R W ask (en + 12 : Nat) { M7 with mode := fzMd (s4.env 20) M7.mode } := hM7'.chg (fun id hid => App.fzMd_other hA M7.mode (by omega)) (Nat.le_refl _) (fun _ _ => rfl) hM7'.c1.2.2.2 rfl
  have wen2 : ((en + 12 : Nat) : Int) = (en : Int) + 12 := by omega
  rw [wen2] at g8b
  simp only [g8b M7 hK7]
  generalize hM8e : Mem.mk _ _ _ _ = M8 at hM8
  have n8 : M7.next = M8.next := by rw [← hM8e]
  clear hM7 hM7' hK7 hK6 hM6 m1 m2 c10 c11' c12' c13' c20 c21
  obtain ⟨sm, hsm⟩ : ∃ sm, sm = (runR (ctsOf ask l hd).h ask ((ctsOf ask l hd).st.map mkSta) ds en).out := ⟨_, rfl⟩
  obtain ⟨mo, hmo⟩ : ∃ mo, mo = (runR (ctsOf ask l hd).h ask ((ctsOf ask l hd).st.map mkSta) ds (en + 12)).out := ⟨_, rfl⟩
  rw [← hsm] at hoS
  rw [← hmo] at hoM
  have tosOf : ∃ tos : Nat → Nat, ∀ i (hi : i < l.length), tos i = toOf l.length i l[i] := ⟨fun i => if hi : i < l.length then toOf l.length i l[i] else 0, fun i hi => dif_pos hi⟩
  obtain ⟨tos, htos⟩ := tosOf
  have hsta := ctsOf_sta ask l hd hn tos htos
  have htlt : ∀ i, i < l.length → tos i < l.length ∧ tos i ≠ i := fun i hi => by rw [htos i hi]; exact toOf_lt hn.1 hi
  have hslen : ((ctsOf ask l hd).st.map mkSta).length = l.length := by simp [ctsOf]
  obtain ⟨rr, hrr, hrf⟩ := run_more (d := ds) (ask := ask) hslen hhl (fun i hi => (htlt i hi).1) hsta en 12
  have hsl := slots_of (d := ds) (ask := ask) hslen hhl (fun i hi => (htlt i hi).1) hsta en
  have hsf : ∀ b ∈ sm, b.fin ≤ en := fun b hb => by
    have := ((run_inv (d := ds) (ask := ask) hslen hhl (fun i hi => (htlt i hi).1) hsta en).1.bur b (by rw [hsm] at hb; exact hb)).2.2.2.1
    omega
  have hml : mo.length ≤ 6 * 92 := by
    rw [hmo]
    have := (run_ok (d := ds) (ask := ask) hslen hhl (fun i hi => (htlt i hi).1) (fun i s h => by
      have hi : i < (ctsOf ask l hd).st.length := by
        have := (List.getElem?_eq_some_iff.1 h).1
        simpa using this
      have h1 := hsta i s h
      have h2 := (ctsOf_ok ask l hd hn 0 (by omega)).one i hi
      rw [List.getElem?_map, List.getElem?_eq_getElem hi] at h
      cases h
      exact ⟨h1.1, h1.2.1, h1.2.2.1, h1.2.2.2, h2.1, h2.2.1.1, h2.2.1.2⟩) hdr (en + 12)).2.2.2.1
    exact Nat.le_trans this (Nat.mul_le_mul hn.2 (by omega))
  rw [← hsm, ← hmo] at hrr
  rw [← hmo] at hsl
  have hlS := SL.len (P := Tryd.prog) Tryd.underlying40 hoS
  have hlM := SL.len (P := Tryd.prog) Tryd.underlying40 hoM
  have hle : ¬ (mo.length : Int) < sm.length := by
    rw [hrr, List.length_append]
    omega
  simp [e2, e3, e4, e13, e14, hlS, hlM, hle]
  have hpre : ∀ i (hi : i < mo.length) (h : i < sm.length), sm[i] = mo[i] := fun i hi h => by
    simp only [hrr]
    rw [List.getElem_append_left h]
  have hpost : ∀ i (hi : i < mo.length), ¬ i < sm.length → (en : Int) < mo[i].fin := fun i hi h => by
    refine hrf _ ?_
    simp only [hrr]
    rw [List.getElem_append_right (by omega)]
    exact List.getElem_mem _
  generalize hl' : cCode C _ _ _ (.loop _) _ = r
  obtain ⟨e, s5, rfl, he, hp⟩ := loop_rule hl' (fun q s => s.env 2 = .bool ask ∧ s.env 23 = .int .i64 en ∧ s.env 24 = .int .i64 bg ∧ s.env 25 = oS ∧ s.env 155 = oM ∧ s.env 13 = .ptr 30 0 ∧ s.env 14 = .ptr 31 0 ∧ s.env 156 = .int .i64 mo.length ∧
      ∃ i, i + q = mo.length ∧ s.env 157 = .int .i64 (i : Nat) ∧ 32 ≤ s.mem.next ∧ M3 30 31 S H R W ask (en + 12 : Nat) s.mem ∧ App eBur 5 (s.env 31) ((mo.take i).filter fun b => decide (b.start < en)) 32 s.mem)
    (fun e s => e = .exit 6 ∧ s.env 2 = .bool ask ∧ s.env 23 = .int .i64 en ∧ s.env 24 = .int .i64 bg ∧ s.env 13 = .ptr 30 0 ∧ s.env 14 = .ptr 31 0 ∧ 32 ≤ s.mem.next ∧ M3 30 31 S H R W ask (en + 12 : Nat) s.mem ∧ App eBur 5 (s.env 31) (mo.filter fun b => decide (b.start < en)) 32 s.mem) mo.length (by omega) (by
      refine ⟨by simp [e2], by simp, by simp, by simp, by simp, by simp [e13], by simp [e14], by simp, 0, by simp, by simp, ?_, hM8.grow (Grow.bump _ _), .inl ⟨by simp, by simp⟩⟩
      have := hM8.nx
      show 32 ≤ M8.next + _
      omega) (by
      rintro q s ⟨e2, e23, e24, e25, e155, e13, e14, e156, i, hiq, e157, hnx, hM, hA⟩
      by_cases hi : i < mo.length
      · have hix := SL.indexAddr (P := Tryd.prog) Tryd.underlying40 sz44 eBur_len hoM (k := .i64) hi
        have hfr : ∀ n, s.mem.mode (s.mem.next + n) = .dead := fun n => hM.fresh _ (by omega)
        have wi : IntKind.i64.wrap ((i : Int) + 1) = ((i + 1 : Nat) : Int) := IntWalk.i64_in _ (by omega)
        have hbe : eBur mo[i] = [.int .i64 mo[i].who, .int .i64 mo[i].start, .int .i64 mo[i].fin, .bool mo[i].asked, .bool mo[i].good] := rfl
        have hp1 := hpost i hi
        have hp2 := hpre i hi
        have gne : ∀ (env : Nat → AVal) (o : Oper), o.op = .binOp .neq 44 (.tmp 180) (.tmp 181) 44 → env 180 = .agg [.int .i64 mo[i].who, .int .i64 mo[i].start, .int .i64 mo[i].fin, .bool mo[i].asked, .bool mo[i].good] → env 181 = .agg [.int .i64 mo[i].who, .int .i64 mo[i].start, .int .i64 mo[i].fin, .bool mo[i].asked, .bool mo[i].good] → genericA C o env = some (.bool false) :=
          fun env o h1 h2 h3 => by rw [gen_ne44 180 181 mo[i] mo[i] h1 h2 h3]; simp
        have htk : ((mo.take (i + 1)).filter fun b => decide (b.start < (en : Int))) = ((mo.take i).filter fun b => decide (b.start < (en : Int))) ++ if mo[i].start < en then [mo[i]] else [] := by
          rw [List.take_succ_eq_append_getElem hi, List.filter_append]
          congr 1
          by_cases h : mo[i].start < en <;> simp [h]
        by_cases hs : i < sm.length
        · have hs' : (i : Int) < sm.length := by omega
          have hix2 := SL.indexAddr (P := Tryd.prog) Tryd.underlying40 sz44 eBur_len hoS (k := .i64) hs
          rw [hp2 hs] at hix2
          have hfin : mo[i].fin ≤ en := by rw [← hp2 hs]; exact hsf _ (List.getElem_mem hs)
          by_cases hst : mo[i].start < en
          · rw [if_pos hst] at htk
            simp [e2, e23, e24, e25, e155, e13, e14, e156, e157, hi, hs', hix, hix2, hbe, ld44, hfr, hlS, hfin, gne, hst, buildSliceA, zeros, List.range, List.range.loop, ag44, sz44, zc44]
            generalize hM2 : Mem.mk _ _ _ _ = M2
            have lo2 : ∀ id, id < s.mem.next → M2.cell id = s.mem.cell id ∧ M2.mode id = s.mem.mode id ∧ M2.siz id = s.mem.siz id := fun id h => by
              have h1 : ¬ id = s.mem.next + 4 := by omega
              have h2 : ¬ id = s.mem.next + 36 := by omega
              rw [← hM2]
              refine ⟨?_, ?_, ?_⟩
              · funext o; simp [h1, h2]
              · simp [upd, h1, h2]
              · simp [upd, h1, h2]
            have mo2 : ∀ id, s.mem.next ≤ id → id ≠ s.mem.next + 4 → id ≠ s.mem.next + 36 → M2.mode id = .dead := fun id h h1 h2 => by
              rw [← hM2]
              simp [upd, h1, h2]
              exact hM.fresh id h
            have nx2 : M2.next = s.mem.next + 39 := by rw [← hM2]
            have g2 : Grow s.mem M2 := ⟨by omega, fun id h => (lo2 id h).1, fun id h => (lo2 id h).2.1, fun id h => (lo2 id h).2.2, fun _ id hid => mo2 id (by omega) (by omega) (by omega)⟩
            obtain ⟨inf, i1, i2, i3⟩ := inf44
            have hfl : ((mo.take i).filter fun b => decide (b.start < (en : Int))).length ≤ i := Nat.le_trans (List.length_filter_le _ _) (by simp; omega)
            obtain ⟨m3, a1, a2, a3, a4⟩ := hM.more (P := Tryd.prog) (t := 40) eBur_len Tryd.underlying40 i1 i2 i3 zc44 rfl (by omega) hA (by omega) (by omega) g2 (xid := s.mem.next + 36) (new := s.mem.next + 37) (v := mo[i]) (by rw [← hM2]; simp) (fun o ho => by
              rw [hbe, ← hM2]
              simp) (by omega) (mo2 _ (by omega) (by omega) (by omega)) (by omega)
            rw [← htk] at a2
            simp [a1, e2, e23, e24, e25, e155, e13, e14, e156, e157, wi]
            refine ⟨_, _, ⟨rfl, rfl⟩, ?_⟩
            simp [e2, e23, e24, e25, e155, e13, e14, e156]
            refine ⟨by omega, i + 1, by omega, by simp, by omega, a4.grow (Grow.bump _ _), a2.grow (Grow.bump m3 2)⟩
          · rw [if_neg hst, List.append_nil] at htk
            simp [e2, e23, e24, e25, e155, e13, e14, e156, e157, hi, hs', hix2, hfin, gne, hix, hbe, ld44, hfr, hlS, hst, ag44, sz44, zc44, wi]
            exact ⟨by omega, i + 1, by omega, by omega, hM.grow (Grow.put s.mem _ _ 4 _ 5 _ (by omega)), by rw [htk]; exact hA.grow (Grow.put s.mem _ _ 4 _ 5 _ (by omega))⟩
        · have hs' : ¬ (i : Int) < sm.length := by omega
          have hfin : ¬ mo[i].fin ≤ en := by have := hp1 hs; omega
          by_cases hst : mo[i].start < en
          · rw [if_pos hst] at htk
            simp [e2, e23, e24, e25, e155, e13, e14, e156, e157, hi, hs', hix, hbe, ld44, hfr, hlS, hfin, hst, buildSliceA, zeros, List.range, List.range.loop, ag44, sz44, zc44]
            generalize hM2 : Mem.mk _ _ _ _ = M2
            have lo2 : ∀ id, id < s.mem.next → M2.cell id = s.mem.cell id ∧ M2.mode id = s.mem.mode id ∧ M2.siz id = s.mem.siz id := fun id h => by
              have h1 : ¬ id = s.mem.next + 4 := by omega
              have h2 : ¬ id = s.mem.next + 36 := by omega
              rw [← hM2]
              refine ⟨?_, ?_, ?_⟩
              · funext o; simp [h1, h2]
              · simp [upd, h1, h2]
              · simp [upd, h1, h2]
            have mo2 : ∀ id, s.mem.next ≤ id → id ≠ s.mem.next + 4 → id ≠ s.mem.next + 36 → M2.mode id = .dead := fun id h h1 h2 => by
              rw [← hM2]
              simp [upd, h1, h2]
              exact hM.fresh id h
            have nx2 : M2.next = s.mem.next + 39 := by rw [← hM2]
            have g2 : Grow s.mem M2 := ⟨by omega, fun id h => (lo2 id h).1, fun id h => (lo2 id h).2.1, fun id h => (lo2 id h).2.2, fun _ id hid => mo2 id (by omega) (by omega) (by omega)⟩
            obtain ⟨inf, i1, i2, i3⟩ := inf44
            have hfl : ((mo.take i).filter fun b => decide (b.start < (en : Int))).length ≤ i := Nat.le_trans (List.length_filter_le _ _) (by simp; omega)
            obtain ⟨m3, a1, a2, a3, a4⟩ := hM.more (P := Tryd.prog) (t := 40) eBur_len Tryd.underlying40 i1 i2 i3 zc44 rfl (by omega) hA (by omega) (by omega) g2 (xid := s.mem.next + 36) (new := s.mem.next + 37) (v := mo[i]) (by rw [← hM2]; simp) (fun o ho => by
              rw [hbe, ← hM2]
              simp) (by omega) (mo2 _ (by omega) (by omega) (by omega)) (by omega)
            rw [← htk] at a2
            simp [a1, e2, e23, e24, e25, e155, e13, e14, e156, e157, wi]
            refine ⟨_, _, ⟨rfl, rfl⟩, ?_⟩
            simp [e2, e23, e24, e25, e155, e13, e14, e156]
            refine ⟨by omega, i + 1, by omega, by simp, by omega, a4.grow (Grow.bump _ _), a2.grow (Grow.bump m3 2)⟩
          · rw [if_neg hst, List.append_nil] at htk
            simp [e2, e23, e24, e25, e155, e13, e14, e156, e157, hi, hs', hfin, hix, hbe, ld44, hfr, hlS, hst, ag44, sz44, zc44, wi]
            exact ⟨by omega, i + 1, by omega, by omega, hM.grow (Grow.put s.mem _ _ 4 _ 5 _ (by omega)), by rw [htk]; exact hA.grow (Grow.put s.mem _ _ 4 _ 5 _ (by omega))⟩
      · have : i = mo.length := by omega
        subst this
        simp [e2, e23, e24, e25, e155, e13, e14, e156, e157]
        rw [List.take_length] at hA
        exact ⟨by omega, hM.grow (Grow.bump _ _), hA.grow (Grow.bump _ _)⟩)
  obtain ⟨rfl, e2, e23, e24, e13, e14, hnx, hM, hA⟩ := hp
  obtain ⟨bs, hbs⟩ : ∃ bs, bs = mo.filter fun b => decide (b.start < (en : Int)) := ⟨_, rfl⟩
  rw [← hbs] at hA hsl
  have hbl : bs.length ≤ 552 := by
    rw [hbs]
    have := List.length_filter_le (fun b : Bur => decide (b.start < (en : Int))) mo
    omega
  have hbb := fun b hb => hsl.bur b hb
  obtain ⟨a31, ha31, f31⟩ := App.fzm hA eBur_len (fun x a ha m => by
    simp [eBur] at ha
    rcases ha with rfl | rfl | rfl | rfl | rfl <;> rfl)
  obtain ⟨sL, hsL⟩ : ∃ sL, sL = s5.env 31 := ⟨_, rfl⟩
  rw [← hsL] at hA f31
  obtain ⟨c12v, hc12⟩ : ∃ c : Cts, c = { ctsOf ask l hd with slots := ((en + 12 : Nat) : Int) } := ⟨_, rfl⟩
  have hcok : c12v.ok := by rw [hc12]; exact ctsOf_ok ask l hd hn _ (by omega)
  have hE12 : eCts c12v = [S, H, .bool ask, .int .i64 (en + 12 : Nat)] := by rw [hc12]; exact hE _
  have hc12h : c12v.h = (ctsOf ask l hd).h := by rw [hc12]
  have hc12s : c12v.st.length = l.length := by rw [hc12]; exact hst
  have hlL := App.lenA (P := Tryd.prog) Tryd.underlying40 hA
  obtain ⟨m0, hm0⟩ : ∃ m0, m0 = s5.mem := ⟨_, rfl⟩
  rw [← hm0] at hA f31 hM hnx
  have hownL : ∀ id k, sL = .own id 0 k 5 → 32 ≤ id ∧ id < m0.next := fun id k e => app_own hA e
  have hbr : ∀ b ∈ bs, (0 ≤ b.start ∧ b.start ≤ 100000) ∧ (0 ≤ b.fin ∧ b.fin ≤ 100000) := fun b hb => by
    have := hbb b hb
    omega
  have hwho : ∀ b ∈ bs, b.who < l.length := fun b hb => (hbb b hb).1
  rw [← hc12h] at hsl F
  have hfzA : ∀ m, freezeL (freezeV 8) [a31] m = some ([a31], m) := fun m => by simp [SL.fz ha31]
  have g9 : ∀ i (hi : i < bs.length) m, Kept 5 sL bs.length m0 m → cCall C T k 9 [.agg [S, H, .bool ask, .int .i64 (en + 12)], .agg [R, W], sL, .int .i64 i, .int .i64 bg] m = some (.bool true, { m with mode := fzMd sL m.mode }) := fun i hi m hm => by
    have h := c9 k c12v hcok (airOf l hd) hwok (by rw [hwl, hc12s]) a31 bs ha31 (SL.fz ha31 7) i hi (by rw [hc12s]; exact hwho) (by omega) bg (by omega) hbr
      (fun q hq hqi h1 h2 => hsl.polite _ (List.getElem_mem hq) _ (List.getElem_mem hi) h1 h2)
      (hsl.polOk hn.2 (by omega) hwl (by omega) hi) (by omega) C.m0
    rw [hsl.quiet F bg hi] at h
    rw [hE12, hW, wen2] at h
    exact pure_args kd9 h (by simp [fS, fH, fR, fW, SL.fz ha31]) (by simp [fS, fH, fR, fW, f31 m hm])
  have g10 : ∀ i (hi : i < bs.length), ∃ o, (∀ m, Kept 5 sL bs.length m0 m → cCall C T k 10 [sL, .int .i64 i, .int .i64 bg] m = some (o, { m with mode := fzMd sL m.mode })) ∧ SL eSen o (onL bs bs[i] i bg bs.length) := fun i hi => by
    obtain ⟨o, h1, h2, h3⟩ := c10 k a31 bs ha31 i hi bg (by omega) hbr (by omega) (by omega) [a31, .int .i64 i, .int .i64 bg] C.m0 C.m0 (by simp [SL.fz ha31])
    exact ⟨o, fun m hm => pure_args kd10 h1 (by simp [SL.fz ha31]) (by simp [f31 m hm]), h2⟩
  have g12 : ∀ i (hi : i < bs.length) m, Kept 5 sL bs.length m0 m → cCall C T k 12 [.agg [S, H, .bool ask, .int .i64 (en + 12)], sL, .int .i64 i] m = some (.bool (canW (airOf l hd) (onL bs bs[i] i bg bs.length) 0 (tos bs[i].who)), { m with mode := fzMd sL m.mode }) := fun i hi m hm => by
    have hto := htlt _ (hwho _ (List.getElem_mem hi))
    have hw' := hwho _ (List.getElem_mem hi)
    have h := c12 k c12v hcok a31 bs ha31 (SL.fz ha31 7) i hi (by rw [hc12s]; exact hwho) (by omega) (tos bs[i].who) (by
      rw [htos _ hw']
      simp [hc12, ctsOf, conOf]) (by omega) C.m0
    rw [← can_clear F bg hi hto.1 hwho hto.2 (fun b hb => (hbb b hb).2.2.1)] at h
    rw [hE12, wen2] at h
    exact pure_args kd12 h (by simp [fS, fH, SL.fz ha31]) (by simp [fS, fH, f31 m hm])
  have g11 : ∀ i (hi : i < bs.length) o, SL eSen o (onL bs bs[i] i bg bs.length) → ∃ S' : List AVal, (∀ m, cCall C T k 11 [.agg [R, W], o, .nils] m = some (.tup [.imm (onL bs bs[i] i bg bs.length).length S', .int .i64 0], m)) ∧ S'.length = (onL bs bs[i] i bg bs.length).length ∧ ∀ p (hp : p < S'.length), SL eNat S'[p] (recW (airOf l hd) (onL bs bs[i] i bg bs.length) p) := fun i hi o ho => by
    have hln : (onL bs bs[i] i bg bs.length).length ≤ 42 := by rw [onL_eq, List.length_map]; exact hsl.onLen hn.2 hi
    obtain ⟨S', h1, h2, h3⟩ := c11 k (airOf l hd) hwok o _ ho (hsl.onOk hn.2 (by omega) hwl (by omega) hi) (by rw [onL_eq]; simp [onB]) (SL.fz ho 7) (by omega) [.agg [R, W], o, .nils] C.m0 C.m0 (by rw [hW]; simp [fR, fW, SL.fz ho])
    exact ⟨S', fun m => pure_args kd11 h1 (by simp [fR, fW, SL.fz ho]) (by simp [fR, fW, SL.fz ho]), h2, h3⟩
  have g13 : ∀ i (hi : i < bs.length) o, SL eSen o (onL bs bs[i] i bg bs.length) → ∀ m, cCall C T k 13 [.agg [R, W], o, .int .i64 0, .int .i64 (tos bs[i].who)] m = some (.bool (canW (airOf l hd) (onL bs bs[i] i bg bs.length) 0 (tos bs[i].who)), m) := fun i hi o ho m => by
    have hto := htlt _ (hwho _ (List.getElem_mem hi))
    have hln : (onL bs bs[i] i bg bs.length).length ≤ 42 := by rw [onL_eq, List.length_map]; exact hsl.onLen hn.2 hi
    have h := c13 k (airOf l hd) hwok o _ ho (fun x hx => by
      have := (hsl.onOk hn.2 (by omega) hwl (by omega) hi).one x hx
      exact this.1) (by omega) (SL.fz ho 7) 0 (tos bs[i].who) (by rw [onL_eq]; simp [onB]) (by omega) (by omega) m
    rw [hW] at h
    exact h
  simp [e2, e23, e24, e13, e14, ← hsL, hlL]
  generalize hl' : cCode C _ _ _ (.loop _) _ = r
  obtain ⟨e, s6, rfl, he, hp⟩ := loop_rule hl' (fun q s => s.env 2 = .bool ask ∧ s.env 23 = .int .i64 en ∧ s.env 24 = .int .i64 bg ∧ s.env 31 = sL ∧ s.env 194 = sL ∧ s.env 13 = .ptr 30 0 ∧ s.env 14 = .ptr 31 0 ∧ s.env 195 = .int .i64 bs.length ∧
      ∃ i, i + q = bs.length ∧ s.env 196 = .int .i64 (i : Nat) ∧ m0.next ≤ s.mem.next ∧ M3 30 31 S H R W ask (en + 12 : Nat) s.mem ∧ Kept 5 sL bs.length m0 s.mem)
    (fun e s => e = .exit 8) bs.length (by omega) (by
      refine ⟨by simp [e2], by simp [e23], by simp [e24], by simp [← hsL], by simp, by simp [e13], by simp [e14], by simp, 0, by simp, by simp, ?_, ?_, ?_⟩
      · rw [hm0]; exact Nat.le_add_right _ _
      · rw [hm0] at hM; exact hM.grow (Grow.bump _ _)
      · exact (Kept.refl hA).same (fun id k e => by rw [hm0]) (fun id k e h => by rw [hm0] at h; exact h)) (by
      rintro q s ⟨e2, e23, e24, e31, e194, e13, e14, e195, i, hiq, e196, hnx2, hM, hK⟩
      by_cases hi : i < bs.length
      · obtain ⟨aid, hsa, b1, b2, b3, b4⟩ := App.get eBur_len hA hi
        obtain ⟨hK1, hK2⟩ := hK aid _ hsa
        have hax : indexAddrA Tryd.prog 40 sL (.int .i64 i) = some (.ptr aid (i * 5)) := by
          rw [hsa]; simp [indexAddrA, hi]
        have hfr : ∀ n, s.mem.mode (s.mem.next + n) = .dead := fun n => hM.fresh _ (by omega)
        have wi : IntKind.i64.wrap ((i : Int) + 1) = ((i + 1 : Nat) : Int) := IntWalk.i64_in _ (by omega)
        have hbe : eBur bs[i] = [.int .i64 bs[i].who, .int .i64 bs[i].start, .int .i64 bs[i].fin, .bool bs[i].asked, .bool bs[i].good] := rfl
        have hcell : ∀ o, o < 5 → s.mem.cell aid (i * 5 + o) = (eBur bs[i])[o]? := fun o ho => by
          have hle : (i + 1) * 5 ≤ bs.length * 5 := Nat.mul_le_mul_right _ hi
          rw [hK2 _ (by omega), b4 o ho]
        have w0 : s.mem.cell aid (i * 5) = some (.int .i64 bs[i].who) := hcell 0 (by omega)
        have w1 : s.mem.cell aid (i * 5 + 1) = some (.int .i64 bs[i].start) := hcell 1 (by omega)
        have w2 : s.mem.cell aid (i * 5 + 2) = some (.int .i64 bs[i].fin) := hcell 2 (by omega)
        have w3 : s.mem.cell aid (i * 5 + 3) = some (.bool bs[i].asked) := hcell 3 (by omega)
        have w4 : s.mem.cell aid (i * 5 + 4) = some (.bool bs[i].good) := hcell 4 (by omega)
        have hbi := hbb _ (List.getElem_mem hi)
        have hto := htlt _ hbi.1
        have m1 := hM.m1
        have m2 := hM.m2
        obtain ⟨c10, c11', c12', c13'⟩ := hM.c1
        obtain ⟨c20, c21⟩ := hM.c2
        have n30 : ∀ n, ¬ 30 = s.mem.next + n := fun n => by omega
        have n31 : ∀ n, ¬ 31 = s.mem.next + n := fun n => by omega
        simp [e2, e23, e24, e31, e194, e13, e14, e195, e196, hi, hax, hK1, w0, w1, w2, w3, w4, hfr, m1, m2, c10, c11', c12', c13', c20, c21, ag29, sz29, ag33, sz33, ag44, sz44, zc44, n30, n31]
        generalize hM2 : Mem.mk _ _ _ _ = M2
        obtain ⟨s0n, hs0n⟩ : ∃ x, x = s.mem.next := ⟨_, rfl⟩
        have gM2 : Grow s.mem M2 := by
          have h1 : ∀ id, id < s.mem.next → ¬ id = s.mem.next + 4 := fun id h => by omega
          refine ⟨by rw [← hM2]; exact Nat.le_add_right _ _, fun id h => ?_, fun id h => ?_, fun id h => ?_, fun h id hid => ?_⟩
          · rw [← hM2]; funext o; simp [h1 id h]
          · rw [← hM2]; simp [upd, h1 id h]
          · rw [← hM2]; simp [upd, h1 id h]
          · rw [← hM2] at hid ⊢
            simp only [] at hid
            simp only [upd]
            rw [if_neg (by omega)]
            exact h id (by omega)
        have hKM : Kept 5 sL bs.length m0 M2 := hK.same (fun id k e => by have := hownL id k e; exact gM2.cell id (by omega)) (fun id k e h => by have := hownL id k e; rw [gM2.mode id (by omega)]; exact h)
        have hMM := hM.grow gM2
        have nM2 : M2.next = s.mem.next + 14 := by rw [← hM2]
        have y0 : M2.cell (s.mem.next + 4) 0 = some (.int .i64 bs[i].who) := by rw [← hM2]; simp
        have y2 : M2.cell (s.mem.next + 4) 2 = some (.int .i64 bs[i].fin) := by rw [← hM2]; simp
        have y3 : M2.cell (s.mem.next + 4) 3 = some (.bool bs[i].asked) := by rw [← hM2]; simp
        have y4 : M2.cell (s.mem.next + 4) 4 = some (.bool bs[i].good) := by rw [← hM2]; simp
        have yz : M2.siz (s.mem.next + 4) = 5 := by rw [← hM2]; simp
        have ym : M2.mode (s.mem.next + 4) = .rw := by rw [← hM2]; simp
        rw [g9 i hi M2 hKM]
        have hK3 : Kept 5 sL bs.length m0 { M2 with mode := fzMd sL M2.mode } := hKM.same (fun _ _ _ => rfl) (fun id k e h => fzMd_live _ _ h)
        have hM3 : M3 30 31 S H R W ask (en + 12 : Nat) { M2 with mode := fzMd sL M2.mode } := hMM.chg (fun id hid => App.fzMd_other hA M2.mode (by omega)) (Nat.le_refl _) (fun _ _ => rfl) hMM.c1.2.2.2 rfl
        have ym3 : fzMd sL M2.mode (s.mem.next + 4) = .rw := by rw [App.fzMd_other hA M2.mode (by omega)]; exact ym
        have hid3 : fzMd sL (fzMd sL M2.mode) = fzMd sL M2.mode := fzMd_idem _ _
        generalize fzMd sL M2.mode = md3 at *
        clear hM2 hKM hMM ym m1 m2 c10 c11' c12' c13' c20 c21
        have m1 : md3 30 = .rw := hM3.m1
        have m2 : md3 31 = .rw := hM3.m2
        have c10 : M2.cell 30 0 = some S := hM3.c1.1
        have c11' : M2.cell 30 1 = some H := hM3.c1.2.1
        have c12' : M2.cell 30 2 = some (.bool ask) := hM3.c1.2.2.1
        have c13' : M2.cell 30 3 = some (.int .i64 (en + 12 : Nat)) := hM3.c1.2.2.2
        have c20 : M2.cell 31 0 = some R := hM3.c2.1
        have c21 : M2.cell 31 1 = some W := hM3.c2.2
        by_cases hf : (en : Int) < bs[i].fin
        · simp [e2, e23, e24, e31, e194, e13, e14, e195, e196, y2, ym3, hf, wi]
          refine ⟨_, _, ⟨rfl, rfl⟩, ?_⟩
          simp [e2, e23, e24, e31, e194, e13, e14, e195]
          exact ⟨by omega, i + 1, by omega, by simp, by omega, hM3.grow (Grow.bump _ _), hK3.same (fun _ _ _ => rfl) (fun _ _ _ h => h)⟩
        · simp [e2, e23, e24, e31, e194, e13, e14, e195, e196, y2, ym3, hf]
          obtain ⟨o, go1, go2⟩ := g10 i hi
          obtain ⟨S', gS1, gS2, gS3⟩ := g11 i hi o go2
          have hfz := hsl.fair F bg hi (by omega) hto.1 hto.2
          have k10 : ∀ n, cCall C T k 10 [sL, .int .i64 i, .int .i64 bg] { cell := M2.cell, mode := md3, siz := M2.siz, next := n } = some (o, { cell := M2.cell, mode := md3, siz := M2.siz, next := n }) := fun n => by
            have := go1 { cell := M2.cell, mode := md3, siz := M2.siz, next := n } (hK3.same (fun _ _ _ => rfl) (fun _ _ _ h => h))
            rw [this, hid3]
          have k12 : ∀ n, cCall C T k 12 [.agg [S, H, .bool ask, .int .i64 (en + 12)], sL, .int .i64 i] { cell := M2.cell, mode := md3, siz := M2.siz, next := n } = some (.bool (canW (airOf l hd) (onL bs bs[i] i bg bs.length) 0 (tos bs[i].who)), { cell := M2.cell, mode := md3, siz := M2.siz, next := n }) := fun n => by
            have := g12 i hi { cell := M2.cell, mode := md3, siz := M2.siz, next := n } (hK3.same (fun _ _ _ => rfl) (fun _ _ _ h => h))
            rw [this, hid3]
          have k13 := g13 i hi o go2
          obtain ⟨rv, hrv⟩ : ∃ rv, rv = canW (airOf l hd) (onL bs bs[i] i bg bs.length) 0 (tos bs[i].who) := ⟨_, rfl⟩
          rw [← hrv] at k12 k13 hfz
          obtain ⟨hgd, hak⟩ := hfz
          have hon1 : 0 < (onL bs bs[i] i bg bs.length).length := by rw [onL_eq]; simp [onB]
          have hlo := SL.len (P := Tryd.prog) Tryd.underlying46 go2
          have hls : lenA Tryd.prog 31 (.imm (onL bs bs[i] i bg bs.length).length S') = some (.int .i64 (onL bs bs[i] i bg bs.length).length) := by simp [lenA]
          simp [k10, gS1, hlo, hls, e2, e23, e24, e31, e194, e13, e14, e195, e196, m2, c20, c21, ag33, sz33]
          have hwl2 : bs[i].who < (ctsOf ask l hd).st.length := by rw [hst]; exact hbi.1
          have hsx : indexAddrA Tryd.prog 26 S (.int .i64 bs[i].who) = some (.iptr (eCon (ctsOf ask l hd).st[bs[i].who] ++ ((ctsOf ask l hd).st.drop (bs[i].who + 1)).flatMap eCon)) := by
            rw [hS]; exact (sl_imm eCon (ctsOf ask l hd).st).indexAddr (P := Tryd.prog) Tryd.underlying26 sz53 eCon_len (k := .i64) hwl2
          have hto' : (ctsOf ask l hd).st[bs[i].who].to = tos bs[i].who := by
            rw [htos _ hbi.1]
            simp [ctsOf, conOf]
          have hS0 : 0 < S'.length := by omega
          have hix31 : indexAddrA Tryd.prog 31 (.imm (onL bs bs[i] i bg bs.length).length S') (.int .i64 0) = some (.iptr (S'[0] :: S'.drop 1)) := by
            have h := (sl_imm (fun x : AVal => [x]) S').indexAddr (P := Tryd.prog) Tryd.underlying31 sz24 (fun _ => rfl) (k := .i64) (i := 0) hS0
            have e : ∀ L : List AVal, L.flatMap (fun x => [x]) = L := fun L => by induction L with
              | nil => rfl
              | cons x r ih => rw [List.flatMap_cons, ih]; rfl
            rw [e, gS2] at h
            have e2 : S'.drop 1 = (S'.drop (0 + 1)).flatMap fun x => [x] := by rw [e]
            rw [e2]
            exact h
          obtain ⟨rc, hrc⟩ : ∃ rc, rc = recW (airOf l hd) (onL bs bs[i] i bg bs.length) 0 := ⟨_, rfl⟩
          have hs0 : SL eNat S'[0] rc := by rw [hrc]; exact gS3 0 hS0
          have hlr := SL.len (P := Tryd.prog) Tryd.underlying24 hs0
          simp [m1, c10, y0, ym3, hsx, eCon, Bk.enc, hto', ld3, hix31, load_iptr_one ag24 sz24, hlr, e2, e23, e24, e31, e194, e13, e14, e195, e196, hls]
          have hrv2 : (rc.any fun j => decide (j = tos bs[i].who)) = rv := by
            rw [hrc, hrv, Bool.eq_iff_iff, List.any_eq_true]
            simp only [recW, List.mem_filter, List.mem_range, decide_eq_true_eq]
            constructor
            · rintro ⟨j, ⟨_, h⟩, rfl⟩; exact h
            · intro h; exact ⟨_, ⟨by rw [hwl]; exact hto.1, h⟩, rfl⟩
          have hrcl : rc.length ≤ 6 := by
            rw [hrc]
            have := List.length_filter_le (canW (airOf l hd) (onL bs bs[i] i bg bs.length) 0) (List.range (airOf l hd).rs.length)
            simp only [recW]
            rw [List.length_range] at this
            omega
          obtain ⟨bf, hbf⟩ : ∃ bf : Nat → Bool, ∀ j, bf j = (rc.take j).any fun j => decide (j = tos bs[i].who) := ⟨_, fun _ => rfl⟩
          have hb0 : bf 0 = false := by rw [hbf]; rfl
          have hbS : ∀ j (hj : j < rc.length), bf (j + 1) = (bf j || ((rc[j] : Int) == (tos bs[i].who : Int))) := fun j hj => by
            rw [hbf, hbf, List.take_succ_eq_append_getElem hj, List.any_append]
            congr 1
            have : ((rc[j] : Int) == (tos bs[i].who : Int)) = decide (rc[j] = tos bs[i].who) := by
              rw [Bool.eq_iff_iff, beq_iff_eq, decide_eq_true_eq]
              omega
            rw [this]
            simp
          have hbE : bf rc.length = rv := by rw [hbf, List.take_length, hrv2]
          clear hbf hrv2
          generalize hl7 : cCode C _ _ _ (.loop _) _ = r
          obtain ⟨e, s7, rfl, he, hp⟩ := loop_rule hl7 (fun q s => s.env 2 = .bool ask ∧ s.env 23 = .int .i64 en ∧ s.env 24 = .int .i64 bg ∧ s.env 31 = sL ∧ s.env 194 = sL ∧ s.env 13 = .ptr 30 0 ∧ s.env 14 = .ptr 31 0 ∧ s.env 195 = .int .i64 bs.length ∧ s.env 196 = .int .i64 (i : Nat) ∧
              s.env 34 = .int .i64 (i : Nat) ∧ s.env 35 = .ptr (s0n + 4) 0 ∧ s.env 36 = o ∧ s.env 39 = .int .i64 (tos bs[i].who) ∧ s.env 240 = S'[0] ∧ s.env 241 = .int .i64 rc.length ∧
              ∃ j, j + q = rc.length ∧ s.env 242 = .int .i64 (j : Nat) ∧ s.env 40 = .bool (bf j) ∧ ∃ n, M2.next ≤ n ∧ s.mem = { cell := M2.cell, mode := md3, siz := M2.siz, next := n })
            (fun e s => e = .exit 10 ∧ s.env 2 = .bool ask ∧ s.env 23 = .int .i64 en ∧ s.env 24 = .int .i64 bg ∧ s.env 31 = sL ∧ s.env 194 = sL ∧ s.env 13 = .ptr 30 0 ∧ s.env 14 = .ptr 31 0 ∧ s.env 195 = .int .i64 bs.length ∧ s.env 196 = .int .i64 (i : Nat) ∧
              s.env 34 = .int .i64 (i : Nat) ∧ s.env 35 = .ptr (s0n + 4) 0 ∧ s.env 36 = o ∧ s.env 39 = .int .i64 (tos bs[i].who) ∧ s.env 40 = .bool rv ∧ ∃ n, M2.next ≤ n ∧ s.mem = { cell := M2.cell, mode := md3, siz := M2.siz, next := n }) rc.length (by omega) (by
              exact ⟨by simp [e2], by simp [e23], by simp [e24], by simp [e31], by simp [e194], by simp [e13], by simp [e14], by simp [e195], by simp [e196], by simp, by simp [hs0n], by simp, by simp, by simp, by simp, 0, by simp, by simp, by simp [hb0], M2.next + 40, by omega, rfl⟩) (by
              rintro q s ⟨e2, e23, e24, e31, e194, e13, e14, e195, e196, e34, e35, e36, e39, e240, e241, j, hjq, e242, e40, n, hn, hmem⟩
              obtain ⟨env, mem⟩ := s
              simp only [] at e2 e23 e24 e31 e194 e13 e14 e195 e196 e34 e35 e36 e39 e240 e241 e242 e40 hmem
              subst hmem
              by_cases hj : j < rc.length
              · have hjx := SL.indexAddr (P := Tryd.prog) Tryd.underlying24 sz3 eNat_len hs0 (k := .i64) hj
                have wj : IntKind.i64.wrap ((j : Int) + 1) = ((j + 1 : Nat) : Int) := IntWalk.i64_in _ (by omega)
                have htk := hbS j hj
                have hne : ∀ x r, (eNat x ++ r) = .int .i64 (x : Nat) :: r := fun _ _ => rfl
                cases hbj : bf j <;> rw [hbj] at e40 htk
                · simp [e2, e23, e24, e31, e194, e13, e14, e195, e196, e34, e35, e36, e39, e240, e241, e242, e40, hj, hjx, hne, ld3, wj]
                  exact ⟨by omega, j + 1, by omega, by simp, by rw [htk]; simp, by omega⟩
                · simp [e2, e23, e24, e31, e194, e13, e14, e195, e196, e34, e35, e36, e39, e240, e241, e242, e40, hj, hjx, hne, ld3, wj]
                  exact ⟨by omega, j + 1, by omega, by simp, by rw [htk]; simp, by omega⟩
              · have : j = rc.length := by omega
                subst this
                rw [hbE] at e40
                simp [e2, e23, e24, e31, e194, e13, e14, e195, e196, e34, e35, e36, e39, e240, e241, e242, e40]
                omega)
          obtain ⟨rfl, e2, e23, e24, e31, e194, e13, e14, e195, e196, e34, e35, e36, e39, e40, n, hn, hmem⟩ := hp
          obtain ⟨env7, mem7⟩ := s7
          simp only [] at e2 e23 e24 e31 e194 e13 e14 e195 e196 e34 e35 e36 e39 e40 hmem
          subst hmem
          rw [← hs0n] at y0 y2 y3 y4 ym3
          have fin : ∀ p, Kept 5 sL bs.length m0 { cell := M2.cell, mode := md3, siz := M2.siz, next := p } := fun p => hK3.same (fun _ _ _ => rfl) (fun _ _ _ h => h)
          have fin2 : ∀ p, M2.next ≤ p → M3 30 31 S H R W ask (en + 12 : Nat) { cell := M2.cell, mode := md3, siz := M2.siz, next := p } := fun p hp => by
            have := hM3.grow (Grow.bump { cell := M2.cell, mode := md3, siz := M2.siz, next := M2.next } (p - M2.next))
            have e : M2.next + (p - M2.next) = p := by omega
            simpa [e] using this
          rw [hgd] at y4
          have e2x := e2
          obtain ⟨asd, hasd⟩ : ∃ x, x = bs[i].asked := ⟨_, rfl⟩
          obtain ⟨ak, hakk⟩ : ∃ x, x = ask := ⟨_, rfl⟩
          rw [← hasd, ← hakk] at y4 hak
          rw [← hasd] at y3
          rw [← hakk] at e2
          clear hgd
          cases rv <;> cases ak <;> cases asd
          all_goals try (exfalso; revert hak; decide)
          all_goals simp only [Bool.false_and, Bool.true_and, Bool.not_true, Bool.not_false, Bool.or_true, Bool.or_false, Bool.true_or, Bool.false_or, Bool.and_true, Bool.and_false] at y4
          all_goals simp [e2, e23, e24, e31, e194, e13, e14, e195, e196, e34, e35, e36, e39, e40, m1, m2, c10, c11', c12', c13', c20, c21, ag29, sz29, ag33, sz33, k12, k13, y3, y4, ym3, wi]
          all_goals
            refine ⟨_, _, ⟨rfl, rfl⟩, ?_⟩
            simp [e2x, e23, e24, e31, e194, e13, e14, e195]
            exact ⟨by omega, i + 1, by omega, by simp, by omega, fin2 _ (by omega), fin _⟩
      · have : i = bs.length := by omega
        subst this
        simp [e195, e196])
  obtain rfl := hp
  simp

theorem c3 (k : Nat) (hk : 3001 ≤ k) (a hv dv : AVal) (l : List Tlk) (hd : List Bool) (dr : List Int) (ha : SL eTlk a l) (hh : SL eBool hv hd) (hdv : SL eInt dv dr) (ask : Bool) (slots fro : Int) (m : Mem) :
    cCall C T k 3 [a, hv, .bool ask, .int .i64 slots, .int .i64 fro, dv] m = some (.bool true, m) :=
  pure_call kd3 3000 (by omega) (args' := [a, hv, .bool ask, .int .i64 slots, .int .i64 fro, dv]) (by simp [SL.fz ha, SL.fz hh, SL.fz hdv]) fun k hk => c3b k hk a hv dv l hd dr ha hh hdv ask slots fro
end Go.Proofs.YtmfdjipijifabaaDoor
end
