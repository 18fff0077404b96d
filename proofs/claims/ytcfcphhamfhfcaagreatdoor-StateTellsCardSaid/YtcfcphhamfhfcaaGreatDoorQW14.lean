/- What the law's proof leans on, part 41. Conditions: in each statement. -/
import Derived.Test.YtcfcphhamfhfcaaGreatDoorQW13
set_option linter.all false
set_option linter.unusedSimpArgs false
set_option linter.unusedVariables false
set_option linter.unusedSectionVars false
namespace Go.Ab
open Go Go.RowKit
theorem zjg (ρ : Nat → Nat) (K : Heap) : ∀ (l : List Nat) (j : Nat) (H : Heap), (zfw ρ K j l H).next = H.next
  | [], _, _ => rfl
  | b :: l, j, H => by rw [zfw, zjg ρ K l]; rfl
theorem zqu (ρ : Nat → Nat) (K : Heap) (b : Nat) : ∀ (l : List Nat) (j : Nat) (H : Heap), l.Nodup → (zfw ρ K j l H).get b = if b ∈ l then (K.get (j + zii l b)).map (Blk.ren ρ) else H.get b
  | [], _, _, _ => by simp [zfw]
  | c :: l, j, H, hn => by
    rw [zfw, zqu ρ K b l (j + 1) _ (List.nodup_cons.1 hn).2, Heap.get_setO]
    by_cases e : b = c
    · subst e
      rw [if_neg (List.nodup_cons.1 hn).1, if_pos rfl, if_pos (by simp)]
      simp [zii]
    · by_cases h : b ∈ l
      · rw [if_pos h, if_pos (by simp [h])]
        simp only [zii, if_neg e]
        rw [show j + 1 + zii l b = j + (zii l b + 1) by omega]
      · rw [if_neg h, if_neg e, if_neg (by simp [e, h])]
theorem zpd (ρ : Nat → Nat) : ∀ (l : List (Option Blk)) (H : Heap), (zik ρ l H).next = H.next + l.length
  | [], _ => rfl
  | x :: l, H => by rw [zik, zpd ρ l, List.length_cons]; simp only; omega
theorem zr2 (ρ : Nat → Nat) (b : Nat) : ∀ (l : List (Option Blk)) (H : Heap), (zik ρ l H).get b = if H.next ≤ b ∧ b < H.next + l.length then (zhl l (b - H.next)).map (Blk.ren ρ) else H.get b
  | [], H => by simp [zik]; intro h1 h2; omega
  | x :: l, H => by
    rw [zik, zr2 ρ b l]
    simp only [List.length_cons]
    have g : Heap.get ⟨H.next + 1, zo6 H.l H.next (x.map (Blk.ren ρ))⟩ b = if b = H.next then x.map (Blk.ren ρ) else H.get b := zi0 ..
    by_cases e : b = H.next
    · subst e
      rw [if_neg (by omega), g, if_pos rfl, if_pos (by omega), Nat.sub_self]; rfl
    · by_cases h : H.next + 1 ≤ b ∧ b < H.next + 1 + l.length
      · rw [if_pos h, if_pos (by omega), show b - H.next = (b - (H.next + 1)) + 1 by omega]; rfl
      · rw [if_neg h, g, if_neg e, if_neg (by omega)]
theorem zv5 : ∀ (n : Nat) (l : List (Option Blk)) (i : Nat), zhl (l.drop n) i = zhl l (n + i)
  | 0, l, i => by simp
  | n + 1, [], i => by simp [zhn]
  | n + 1, x :: l, i => by rw [List.drop_succ_cons, zv5 n l i, show n + 1 + i = (n + i) + 1 by omega]; rfl
theorem zv6 : ∀ (n : Nat) (l : List (Option Blk)) (i : Nat), i < n → zhl (l.take n) i = zhl l i
  | 0, l, i, h => by omega
  | n + 1, [], i, _ => by simp
  | n + 1, x :: l, 0, _ => rfl
  | n + 1, x :: l, i + 1, h => zv6 n l i (by omega)
section
variable [E : Env] {P : Program} {w0 : World} {base lo : Nat} {ι : Inj} {H : Heap} {w : World} {ex : ExF}
theorem yacu {ord : List Nat} {K : Heap} (hl : K.l.length = K.next) : (zlc ord H K).next = H.next + (K.next - ord.length) := by
  unfold zlc
  rw [zpd, zjg, List.length_take, List.length_drop, hl, Nat.min_self]
theorem yaf0 {ord : List Nat} {K : Heap} (hl : K.l.length = K.next) (hn : ord.Nodup) (ho : ∀ b ∈ ord, b < H.next) (b : Nat) :
    (zlc ord H K).get b = if b ∈ ord then (K.get (zii ord b)).map (Blk.ren (sig ord H.next)) else if H.next ≤ b ∧ b < H.next + (K.next - ord.length) then (K.get (ord.length + (b - H.next))).map (Blk.ren (sig ord H.next)) else H.get b := by
  have len : ((K.l.drop ord.length).take (K.next - ord.length)).length = K.next - ord.length := by rw [List.length_take, List.length_drop, hl, Nat.min_self]
  unfold zlc
  rw [zr2, zjg, zqu _ _ _ _ _ _ hn, len]
  by_cases h1 : b ∈ ord
  · have := ho b h1
    rw [if_neg (by omega), if_pos h1, if_pos h1, Nat.zero_add]
  · rw [if_neg h1, if_neg h1]
    by_cases h2 : H.next ≤ b ∧ b < H.next + (K.next - ord.length)
    · rw [if_pos h2, if_pos h2, zv6 _ _ _ (by omega), zv5]; rfl
    · rw [if_neg h2, if_neg h2]
def injG (ι ι' : Inj) (n p : Nat) : Inj := fun b => if b < n then ι b else ι' (p + (b - n))
theorem zse (s : Sim P w0 base ι H w) {ord : List Nat} (hs : Shut H ord) (ho : ∀ b ∈ ord, b < H.next) {K : Heap} {ι' : Inj} {w' : World} (hl : K.l.length = K.next)
    (p : CPost P w0 base ord.length (zp7 ι ord) (H.part ord) w ι' K w') :
    Post P w0 base 0 ι H w (injG ι ι' H.next ord.length) (zlc ord H K) w' ∧ (∀ v : AV, v.OK w0 base K.next → (v.ren (sig ord H.next)).OK w0 base (zlc ord H K).next ∧ (v.ren (sig ord H.next)).conc (injG ι ι' H.next ord.length) = v.conc ι') := by
  have hnx := yacu (H := H) (ord := ord) hl
  have hp : ord.length ≤ K.next := p.hpin
  have sg : ∀ j, j < K.next → sig ord H.next j < (zlc ord H K).next ∧ injG ι ι' H.next ord.length (sig ord H.next j) = ι' j := by
    intro j hj
    unfold sig
    by_cases h : j < ord.length
    · have hm : ord[j] ∈ ord := List.getElem_mem h
      have hlt := ho _ hm
      rw [if_pos h, List.getD_eq_getElem?_getD, List.getElem?_eq_getElem h, Option.getD_some]
      refine ⟨by omega, ?_⟩
      unfold injG
      rw [if_pos hlt, p.ext j h]
      unfold zp7
      rw [List.getD_eq_getElem?_getD, List.getElem?_eq_getElem h]; rfl
    · rw [if_neg h]
      refine ⟨by omega, ?_⟩
      unfold injG
      rw [if_neg (by omega)]
      congr 1; omega
  have old : ∀ b, b < H.next → injG ι ι' H.next ord.length b = ι b := fun b hb => if_pos hb
  have get : ∀ b x, (zlc ord H K).get b = some x → (b ∉ ord ∧ b < H.next ∧ H.get b = some x) ∨ (∃ j y, K.get j = some y ∧ x = y.ren (sig ord H.next) ∧ injG ι ι' H.next ord.length b = ι' j ∧ b = sig ord H.next j) := by
    intro b x hx
    rw [yaf0 hl hs.nodup ho] at hx
    by_cases h1 : b ∈ ord
    · rw [if_pos h1, Option.map_eq_some_iff] at hx
      obtain ⟨y, hy, rfl⟩ := hx
      have hj := p.sim.lt _ _ hy
      have e : sig ord H.next (zii ord b) = b := by
        unfold sig
        rw [if_pos (znj h1), List.getD_eq_getElem?_getD, zo2 h1]; rfl
      refine .inr ⟨_, y, hy, rfl, ?_, e.symm⟩
      have := (sg _ hj).2
      rw [e] at this; exact this
    · rw [if_neg h1] at hx
      by_cases h2 : H.next ≤ b ∧ b < H.next + (K.next - ord.length)
      · rw [if_pos h2, Option.map_eq_some_iff] at hx
        obtain ⟨y, hy, rfl⟩ := hx
        have hj := p.sim.lt _ _ hy
        have e : sig ord H.next (ord.length + (b - H.next)) = b := by
          unfold sig; rw [if_neg (by omega)]; omega
        refine .inr ⟨_, y, hy, rfl, ?_, e.symm⟩
        have := (sg _ hj).2
        rw [e] at this; exact this
      · rw [if_neg h2] at hx
        exact .inl ⟨h1, s.lt b x hx, hx⟩
  have apart : ∀ b y j z, b ∉ ord → H.get b = some y → K.get j = some z → (ι b).1 ≠ (ι' j).1 := by
    intro b y j z hb hy hz he
    rcases p.newr j z hz with h | ⟨b0, x0, h0, h1⟩
    · have := s.blt hy; omega
    · rw [zgg] at h0
      cases hc : ord[b0]? with
      | none => rw [hc] at h0; cases h0
      | some c =>
        rw [hc, Option.bind_some, Option.map_eq_some_iff] at h0
        obtain ⟨u, hu, _⟩ := h0
        have e : zp7 ι ord b0 = ι c := by unfold zp7; rw [List.getD_eq_getElem?_getD, hc]; rfl
        rw [e] at h1
        have := s.inj b c y u hy hu (he.trans h1)
        subst this
        exact hb (List.mem_of_getElem? hc)
  have ok : ∀ v : AV, v.OK w0 base K.next → (v.ren (sig ord H.next)).OK w0 base (zlc ord H K).next ∧ (v.ren (sig ord H.next)).conc (injG ι ι' H.next ord.length) = v.conc ι' := fun v hv =>
    ⟨zkg v hv fun b hb => (sg b (zjj v hv b hb)).1, zhg v fun b hb => (sg b (zjj v hv b hb)).2⟩
  refine ⟨⟨⟨p.sim.below, s.hb, s.gl, fun b b' x x' hx hx' he => ?_, fun b x hx => ?_, fun b x hx => ?_, fun b x hx => ?_, fun b x hx => ?_⟩, old, by omega, fun b hb => by omega, fun b x hb hx => ?_, p.size, fun r hr hne => ?_, fun b x hx hb => ?_⟩, ok⟩
  · rcases get b x hx with ⟨h1, h2, h3⟩ | ⟨j, y, h1, h2, h3, h4⟩
    · rcases get b' x' hx' with ⟨k1, k2, k3⟩ | ⟨j', y', k1, k2, k3, k4⟩
      · rw [old b h2, old b' k2] at he
        exact s.inj b b' x x' h3 k3 he
      · rw [old b h2, k3] at he
        exact absurd he (apart b x j' y' h1 h3 k1)
    · rcases get b' x' hx' with ⟨k1, k2, k3⟩ | ⟨j', y', k1, k2, k3, k4⟩
      · rw [h3, old b' k2] at he
        exact absurd he.symm (apart b' x' j y k1 k3 h1)
      · rw [h3, k3] at he
        have := p.sim.inj j j' y y' h1 k1 he
        subst this
        rw [h4, k4]
  · rcases get b x hx with ⟨h1, h2, h3⟩ | ⟨j, y, h1, h2, h3, h4⟩
    · omega
    · rw [h4]; exact (sg j (p.sim.lt j y h1)).1
  · rcases get b x hx with ⟨h1, h2, h3⟩ | ⟨j, y, h1, h2, h3, h4⟩
    · rw [old b h2]; exact s.lo b x h3
    · rw [h3]; exact p.sim.lo j y h1
  · rcases get b x hx with ⟨h1, h2, h3⟩ | ⟨j, y, h1, h2, h3, h4⟩
    · exact (s.ok b x h3).mono (by omega)
    · rw [h2]
      have hk := p.sim.ok j y h1
      exact hk.ren fun c hc => (sg c (hk.refs c hc)).1
  · rcases get b x hx with ⟨h1, h2, h3⟩ | ⟨j, y, h1, h2, h3, h4⟩
    · rw [old b h2, p.frame _ (s.blt h3) fun j z hz => ?_]
      · exact (s.rel b x h3).ext (fun c hc => old c hc) (s.ok b x h3)
      · rw [zgg] at hz
        cases hc : ord[j]? with
        | none => rw [hc] at hz; cases hz
        | some c =>
          rw [hc, Option.bind_some, Option.map_eq_some_iff] at hz
          obtain ⟨u, hu, _⟩ := hz
          have e : zp7 ι ord j = ι c := by unfold zp7; rw [List.getD_eq_getElem?_getD, hc]; rfl
          rw [e]
          intro he
          have := s.inj c b u x hu h3 he
          subst this
          exact h1 (List.mem_of_getElem? hc)
    · rw [h3, h2]
      have hk := p.sim.ok j y h1
      exact (p.sim.rel j y h1).ren fun c hc => (sg c (hk.refs c hc)).2
  · rcases get b x hx with ⟨h1, h2, h3⟩ | ⟨j, y, h1, h2, h3, h4⟩
    · exact ⟨x, h3⟩
    · have hj : j < ord.length := by
        rcases Nat.lt_or_ge j ord.length with h | h
        · exact h
        · rw [h4] at hb; unfold sig at hb; rw [if_neg (by omega)] at hb; omega
      obtain ⟨z, hz⟩ := p.alive j y hj h1
      rw [zgg, List.getElem?_eq_getElem hj, Option.bind_some, Option.map_eq_some_iff] at hz
      obtain ⟨u, hu, _⟩ := hz
      refine ⟨u, ?_⟩
      have e : b = ord[j] := by rw [h4]; unfold sig; rw [if_pos hj, List.getD_eq_getElem?_getD, List.getElem?_eq_getElem hj]; rfl
      rw [e]; exact hu
  · refine p.frame r hr fun j z hz => ?_
    rw [zgg] at hz
    cases hc : ord[j]? with
    | none => rw [hc] at hz; cases hz
    | some c =>
      rw [hc, Option.bind_some, Option.map_eq_some_iff] at hz
      obtain ⟨u, hu, _⟩ := hz
      have e : zp7 ι ord j = ι c := by unfold zp7; rw [List.getD_eq_getElem?_getD, hc]; rfl
      rw [e]; exact hne c u hu (Nat.zero_le _)
  · rcases get b x hx with ⟨h1, h2, h3⟩ | ⟨j, y, h1, h2, h3, h4⟩
    · omega
    · rw [h3]
      rcases p.newr j y h1 with h | ⟨b0, x0, h0, h5⟩
      · exact .inl h
      · rw [zgg] at h0
        cases hc : ord[b0]? with
        | none => rw [hc] at h0; cases h0
        | some c =>
          rw [hc, Option.bind_some, Option.map_eq_some_iff] at h0
          obtain ⟨u, hu, _⟩ := h0
          have e : zp7 ι ord b0 = ι c := by unfold zp7; rw [List.getD_eq_getElem?_getD, hc]; rfl
          exact .inr ⟨c, u, hu, Nat.zero_le _, by rw [h5, e]⟩
end
end Go.Ab
