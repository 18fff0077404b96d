/- What the law's proof leans on, part 40. Conditions: in each statement. -/
import Derived.Test.YtibehelnfbcnjaaGreatDoorQW13
set_option linter.all false
set_option linter.unusedSimpArgs false
set_option linter.unusedVariables false
set_option linter.unusedSectionVars false
namespace Go.Ab
open Go Go.RowKit
theorem zhk (ρ : Nat → Nat) (K : Heap) : ∀ (l : List Nat) (j : Nat) (H : Heap), (zen ρ K j l H).next = H.next
  | [], _, _ => rfl
  | b :: l, j, H => by rw [zen, zhk ρ K l]; rfl
theorem zn5 (ρ : Nat → Nat) (K : Heap) (b : Nat) : ∀ (l : List Nat) (j : Nat) (H : Heap), l.Nodup → (zen ρ K j l H).get b = if b ∈ l then (K.get (j + zgo l b)).map (Blk.ren ρ) else H.get b
  | [], _, _, _ => by simp [zen]
  | c :: l, j, H, hn => by
    rw [zen, zn5 ρ K b l (j + 1) _ (List.nodup_cons.1 hn).2, Heap.get_setO]
    by_cases e : b = c
    · subst e
      rw [if_neg (List.nodup_cons.1 hn).1, if_pos rfl, if_pos (by simp)]
      simp [zgo]
    · by_cases h : b ∈ l
      · rw [if_pos h, if_pos (by simp [h])]
        simp only [zgo, if_neg e]
        rw [show j + 1 + zgo l b = j + (zgo l b + 1) by omega]
      · rw [if_neg h, if_neg e, if_neg (by simp [e, h])]
theorem zmy (ρ : Nat → Nat) : ∀ (l : List (Option Blk)) (H : Heap), (zgr ρ l H).next = H.next + l.length
  | [], _ => rfl
  | x :: l, H => by rw [zgr, zmy ρ l, List.length_cons]; simp only; omega
theorem zpi (ρ : Nat → Nat) (b : Nat) : ∀ (l : List (Option Blk)) (H : Heap), (zgr ρ l H).get b = if H.next ≤ b ∧ b < H.next + l.length then (zl2 l (b - H.next)).map (Blk.ren ρ) else H.get b
  | [], H => by simp [zgr]; intro h1 h2; omega
  | x :: l, H => by
    rw [zgr, zpi ρ b l]
    simp only [List.length_cons]
    have g : Heap.get ⟨H.next + 1, zmq H.l H.next (x.map (Blk.ren ρ))⟩ b = if b = H.next then x.map (Blk.ren ρ) else H.get b := zg6 ..
    by_cases e : b = H.next
    · subst e
      rw [if_neg (by omega), g, if_pos rfl, if_pos (by omega), Nat.sub_self]; rfl
    · by_cases h : H.next + 1 ≤ b ∧ b < H.next + 1 + l.length
      · rw [if_pos h, if_pos (by omega), show b - H.next = (b - (H.next + 1)) + 1 by omega]; rfl
      · rw [if_neg h, g, if_neg e, if_neg (by omega)]
theorem zs9 : ∀ (n : Nat) (l : List (Option Blk)) (i : Nat), zl2 (l.drop n) i = zl2 l (n + i)
  | 0, l, i => by simp
  | n + 1, [], i => by simp [zf8]
  | n + 1, x :: l, i => by rw [List.drop_succ_cons, zs9 n l i, show n + 1 + i = (n + i) + 1 by omega]; rfl
theorem zta : ∀ (n : Nat) (l : List (Option Blk)) (i : Nat), i < n → zl2 (l.take n) i = zl2 l i
  | 0, l, i, h => by omega
  | n + 1, [], i, _ => by simp
  | n + 1, x :: l, 0, _ => rfl
  | n + 1, x :: l, i + 1, h => zta n l i (by omega)
section
variable [E : Env] {P : Program} {w0 : World} {base lo : Nat} {ι : Inj} {H : Heap} {w : World} {ex : ExF}
theorem zzr {ord : List Nat} {K : Heap} (hl : K.l.length = K.next) : (zi5 ord H K).next = H.next + (K.next - ord.length) := by
  unfold zi5
  rw [zmy, zhk, List.length_take, List.length_drop, hl, Nat.min_self]
theorem yac2 {ord : List Nat} {K : Heap} (hl : K.l.length = K.next) (hn : ord.Nodup) (ho : ∀ b ∈ ord, b < H.next) (b : Nat) :
    (zi5 ord H K).get b = if b ∈ ord then (K.get (zgo ord b)).map (Blk.ren (sig ord H.next)) else if H.next ≤ b ∧ b < H.next + (K.next - ord.length) then (K.get (ord.length + (b - H.next))).map (Blk.ren (sig ord H.next)) else H.get b := by
  have len : ((K.l.drop ord.length).take (K.next - ord.length)).length = K.next - ord.length := by rw [List.length_take, List.length_drop, hl, Nat.min_self]
  unfold zi5
  rw [zpi, zhk, zn5 _ _ _ _ _ _ hn, len]
  by_cases h1 : b ∈ ord
  · have := ho b h1
    rw [if_neg (by omega), if_pos h1, if_pos h1, Nat.zero_add]
  · rw [if_neg h1, if_neg h1]
    by_cases h2 : H.next ≤ b ∧ b < H.next + (K.next - ord.length)
    · rw [if_pos h2, if_pos h2, zta _ _ _ (by omega), zs9]; rfl
    · rw [if_neg h2, if_neg h2]
def injG (ι ι' : Inj) (n p : Nat) : Inj := fun b => if b < n then ι b else ι' (p + (b - n))
theorem zps (s : Sim P w0 base ι H w) {ord : List Nat} (hs : Shut H ord) (ho : ∀ b ∈ ord, b < H.next) {K : Heap} {ι' : Inj} {w' : World} (hl : K.l.length = K.next)
    (p : CPost P w0 base ord.length (znk ι ord) (H.part ord) w ι' K w') :
    Post P w0 base 0 ι H w (injG ι ι' H.next ord.length) (zi5 ord H K) w' ∧ (∀ v : AV, v.OK w0 base K.next → (v.ren (sig ord H.next)).OK w0 base (zi5 ord H K).next ∧ (v.ren (sig ord H.next)).conc (injG ι ι' H.next ord.length) = v.conc ι') := by
  have hnx := zzr (H := H) (ord := ord) hl
  have hp : ord.length ≤ K.next := p.hpin
  have sg : ∀ j, j < K.next → sig ord H.next j < (zi5 ord H K).next ∧ injG ι ι' H.next ord.length (sig ord H.next j) = ι' j := by
    intro j hj
    unfold sig
    by_cases h : j < ord.length
    · have hm : ord[j] ∈ ord := List.getElem_mem h
      have hlt := ho _ hm
      rw [if_pos h, List.getD_eq_getElem?_getD, List.getElem?_eq_getElem h, Option.getD_some]
      refine ⟨by omega, ?_⟩
      unfold injG
      rw [if_pos hlt, p.ext j h]
      unfold znk
      rw [List.getD_eq_getElem?_getD, List.getElem?_eq_getElem h]; rfl
    · rw [if_neg h]
      refine ⟨by omega, ?_⟩
      unfold injG
      rw [if_neg (by omega)]
      congr 1; omega
  have old : ∀ b, b < H.next → injG ι ι' H.next ord.length b = ι b := fun b hb => if_pos hb
  have get : ∀ b x, (zi5 ord H K).get b = some x → (b ∉ ord ∧ b < H.next ∧ H.get b = some x) ∨ (∃ j y, K.get j = some y ∧ x = y.ren (sig ord H.next) ∧ injG ι ι' H.next ord.length b = ι' j ∧ b = sig ord H.next j) := by
    intro b x hx
    rw [yac2 hl hs.nodup ho] at hx
    by_cases h1 : b ∈ ord
    · rw [if_pos h1, Option.map_eq_some_iff] at hx
      obtain ⟨y, hy, rfl⟩ := hx
      have hj := p.sim.lt _ _ hy
      have e : sig ord H.next (zgo ord b) = b := by
        unfold sig
        rw [if_pos (zk5 h1), List.getD_eq_getElem?_getD, zmo h1]; rfl
      refine .inr ⟨_, y, hy, rfl, ?_, e.symm⟩
      have := (sg _ hj).2
      rw [e] at this; exact this
    · rw [if_neg h1] at hx
      by_cases h2 : H.next ≤ b ∧ b < H.next + (K.next - ord.length)
      · rw [if_pos h2, Option.map_eq_some_iff] at hx
        obtain ⟨y, hy, rfl⟩ := hx
        have hj := p.sim.lt _ _ hy
        have e : sig ord H.next (ord.length + (b - H.next)) = b := by
          unfold sig; rw [if_neg (by omega)]; omega
        refine .inr ⟨_, y, hy, rfl, ?_, e.symm⟩
        have := (sg _ hj).2
        rw [e] at this; exact this
      · rw [if_neg h2] at hx
        exact .inl ⟨h1, s.lt b x hx, hx⟩
  have apart : ∀ b y j z, b ∉ ord → H.get b = some y → K.get j = some z → (ι b).1 ≠ (ι' j).1 := by
    intro b y j z hb hy hz he
    rcases p.newr j z hz with h | ⟨b0, x0, h0, h1⟩
    · have := s.blt hy; omega
    · rw [ze3] at h0
      cases hc : ord[b0]? with
      | none => rw [hc] at h0; cases h0
      | some c =>
        rw [hc, Option.bind_some, Option.map_eq_some_iff] at h0
        obtain ⟨u, hu, _⟩ := h0
        have e : znk ι ord b0 = ι c := by unfold znk; rw [List.getD_eq_getElem?_getD, hc]; rfl
        rw [e] at h1
        have := s.inj b c y u hy hu (he.trans h1)
        subst this
        exact hb (List.mem_of_getElem? hc)
  have ok : ∀ v : AV, v.OK w0 base K.next → (v.ren (sig ord H.next)).OK w0 base (zi5 ord H K).next ∧ (v.ren (sig ord H.next)).conc (injG ι ι' H.next ord.length) = v.conc ι' := fun v hv =>
    ⟨zif v hv fun b hb => (sg b (zhn v hv b hb)).1, zf2 v fun b hb => (sg b (zhn v hv b hb)).2⟩
  refine ⟨⟨⟨p.sim.below, s.hb, s.gl, fun b b' x x' hx hx' he => ?_, fun b x hx => ?_, fun b x hx => ?_, fun b x hx => ?_, fun b x hx => ?_⟩, old, by omega, fun b hb => by omega, fun b x hb hx => ?_, p.size, fun r hr hne => ?_, fun b x hx hb => ?_⟩, ok⟩
  · rcases get b x hx with ⟨h1, h2, h3⟩ | ⟨j, y, h1, h2, h3, h4⟩
    · rcases get b' x' hx' with ⟨k1, k2, k3⟩ | ⟨j', y', k1, k2, k3, k4⟩
      · rw [old b h2, old b' k2] at he
        exact s.inj b b' x x' h3 k3 he
      · rw [old b h2, k3] at he
        exact absurd he (apart b x j' y' h1 h3 k1)
    · rcases get b' x' hx' with ⟨k1, k2, k3⟩ | ⟨j', y', k1, k2, k3, k4⟩
      · rw [h3, old b' k2] at he
        exact absurd he.symm (apart b' x' j y k1 k3 h1)
      · rw [h3, k3] at he
        have := p.sim.inj j j' y y' h1 k1 he
        subst this
        rw [h4, k4]
  · rcases get b x hx with ⟨h1, h2, h3⟩ | ⟨j, y, h1, h2, h3, h4⟩
    · omega
    · rw [h4]; exact (sg j (p.sim.lt j y h1)).1
  · rcases get b x hx with ⟨h1, h2, h3⟩ | ⟨j, y, h1, h2, h3, h4⟩
    · rw [old b h2]; exact s.lo b x h3
    · rw [h3]; exact p.sim.lo j y h1
  · rcases get b x hx with ⟨h1, h2, h3⟩ | ⟨j, y, h1, h2, h3, h4⟩
    · exact (s.ok b x h3).mono (by omega)
    · rw [h2]
      have hk := p.sim.ok j y h1
      exact hk.ren fun c hc => (sg c (hk.refs c hc)).1
  · rcases get b x hx with ⟨h1, h2, h3⟩ | ⟨j, y, h1, h2, h3, h4⟩
    · rw [old b h2, p.frame _ (s.blt h3) fun j z hz => ?_]
      · exact (s.rel b x h3).ext (fun c hc => old c hc) (s.ok b x h3)
      · rw [ze3] at hz
        cases hc : ord[j]? with
        | none => rw [hc] at hz; cases hz
        | some c =>
          rw [hc, Option.bind_some, Option.map_eq_some_iff] at hz
          obtain ⟨u, hu, _⟩ := hz
          have e : znk ι ord j = ι c := by unfold znk; rw [List.getD_eq_getElem?_getD, hc]; rfl
          rw [e]
          intro he
          have := s.inj c b u x hu h3 he
          subst this
          exact h1 (List.mem_of_getElem? hc)
    · rw [h3, h2]
      have hk := p.sim.ok j y h1
      exact (p.sim.rel j y h1).ren fun c hc => (sg c (hk.refs c hc)).2
  · rcases get b x hx with ⟨h1, h2, h3⟩ | ⟨j, y, h1, h2, h3, h4⟩
    · exact ⟨x, h3⟩
    · have hj : j < ord.length := by
        rcases Nat.lt_or_ge j ord.length with h | h
        · exact h
        · rw [h4] at hb; unfold sig at hb; rw [if_neg (by omega)] at hb; omega
      obtain ⟨z, hz⟩ := p.alive j y hj h1
      rw [ze3, List.getElem?_eq_getElem hj, Option.bind_some, Option.map_eq_some_iff] at hz
      obtain ⟨u, hu, _⟩ := hz
      refine ⟨u, ?_⟩
      have e : b = ord[j] := by rw [h4]; unfold sig; rw [if_pos hj, List.getD_eq_getElem?_getD, List.getElem?_eq_getElem hj]; rfl
      rw [e]; exact hu
  · refine p.frame r hr fun j z hz => ?_
    rw [ze3] at hz
    cases hc : ord[j]? with
    | none => rw [hc] at hz; cases hz
    | some c =>
      rw [hc, Option.bind_some, Option.map_eq_some_iff] at hz
      obtain ⟨u, hu, _⟩ := hz
      have e : znk ι ord j = ι c := by unfold znk; rw [List.getD_eq_getElem?_getD, hc]; rfl
      rw [e]; exact hne c u hu (Nat.zero_le _)
  · rcases get b x hx with ⟨h1, h2, h3⟩ | ⟨j, y, h1, h2, h3, h4⟩
    · omega
    · rw [h3]
      rcases p.newr j y h1 with h | ⟨b0, x0, h0, h5⟩
      · exact .inl h
      · rw [ze3] at h0
        cases hc : ord[b0]? with
        | none => rw [hc] at h0; cases h0
        | some c =>
          rw [hc, Option.bind_some, Option.map_eq_some_iff] at h0
          obtain ⟨u, hu, _⟩ := h0
          have e : znk ι ord b0 = ι c := by unfold znk; rw [List.getD_eq_getElem?_getD, hc]; rfl
          exact .inr ⟨c, u, hu, Nat.zero_le _, by rw [h5, e]⟩
end
end Go.Ab
