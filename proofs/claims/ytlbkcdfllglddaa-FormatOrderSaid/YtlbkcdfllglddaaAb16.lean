/- The abstract interpreter is sound, 13: regions whose order is open: whatever order the machine draws. Conditions: none. -/
import Derived.Test.YtlbkcdfllglddaaAb15
set_option linter.unusedSimpArgs false
set_option linter.unusedVariables false
namespace Go.Ab
open Go Go.RowKit

def dstOf (ops : Array Oper) (i : Nat) : Option Tmp := (ops[i]?).bind (·.dst)
/-- what temporary t holds when the operations below i that D lists have been carried out in the text's order -/
def valT (ops : Array Oper) (env0 : List AV) (val : Nat → AV) (D : Nat → Bool) : Nat → Nat → Option AV
  | 0, t => env0[t]?
  | i + 1, t => if D i = true ∧ dstOf ops i = some t ∧ t < env0.length then some (val i) else valT ops env0 val D i t

section
variable {P : Program} {w0 : World} {base lo : Nat} {ι ι1 ι2 : Inj} {H H1 H2 : Heap} {w w1 w2 : World} {ex : ExF}

theorem testBit_foldl (bef : Array Nat) (j : Nat) : ∀ (l : List Edge) (s : Nat), (l.foldl (fun s e => if Region.binds .any e then s ||| 2 ^ e.on ||| bef.getD e.on 0 else s) s).testBit j = true →
    s.testBit j = true ∨ ∃ e ∈ l, Region.binds .any e = true ∧ (j = e.on ∨ (bef.getD e.on 0).testBit j = true)
  | [], s, h => .inl h
  | e :: l, s, h => by
    simp only [List.foldl_cons] at h
    rcases testBit_foldl bef j l _ h with h | ⟨e', he', h1, h2⟩
    · split at h
      · rename_i hb
        rw [Nat.testBit_or, Nat.testBit_or, Nat.testBit_two_pow] at h
        simp only [Bool.or_eq_true, decide_eq_true_eq] at h
        rcases h with (h | h) | h
        · exact .inl h
        · exact .inr ⟨e, by simp, hb, .inl h.symm⟩
        · exact .inr ⟨e, by simp, hb, .inr h⟩
      · exact .inl h
    · exact .inr ⟨e', by simp [he'], h1, h2⟩

/-- what a region's order rests on -/
structure Order (ops : Array Oper) (bef : Array Nat) : Prop where
  via : ∀ i o j, ops[i]? = some o → (bef.getD i 0).testBit j = true → ∃ e ∈ o.after.toList, Region.binds .any e = true ∧ (j = e.on ∨ (bef.getD e.on 0).testBit j = true)
  back : ∀ i o, ops[i]? = some o → ∀ e ∈ o.after.toList, Region.binds .any e = true → e.on < i

theorem edgesOk_back : ∀ (l : List Oper) (i : Nat), edgesOk i l = true → ∀ j o, l[j]? = some o → ∀ e ∈ o.after.toList, Region.binds .any e = true → e.on < i + j
  | [], i, _, j, o, ho, _, _, _ => by simp at ho
  | x :: l, i, h, j, o, ho, e, he, hb => by
    simp only [edgesOk, Bool.and_eq_true] at h
    cases j with
    | zero =>
      simp only [List.getElem?_cons_zero, Option.some.injEq] at ho
      subst ho
      have := Array.all_eq_true'.1 h.1 e (by simpa using he)
      simp [hb] at this
      simpa using this
    | succ j =>
      have := edgesOk_back l (i + 1) h.2 j o (by simpa using ho) e he hb
      omega

theorem order_of [E : Env] {ops : Array Oper} {bef : Array Nat} (h1 : edgesOk 0 ops.toList = true) (h2 : befOk ops bef = true) : Order ops bef where
  via := fun i o j ho hj => by
    have hi : i < ops.size := (Array.getElem?_eq_some_iff.1 ho).1
    simp only [befOk, Bool.and_eq_true] at h2
    have := List.all_eq_true.1 h2.2 i (List.mem_range.2 hi)
    simp only [ho, beq_iff_eq] at this
    rw [this] at hj
    rcases testBit_foldl bef j _ 0 hj with h | h
    · simp at h
    · exact h
  back := fun i o ho e he hb => by
    have := edgesOk_back ops.toList 0 h1 i o (by simpa using ho) e he hb
    omega

theorem Order.bits {ops : Array Oper} {bef : Array Nat} (r : Order ops bef) (hn : ∀ i, ops.size ≤ i → bef.getD i 0 = 0) : ∀ i j, (bef.getD i 0).testBit j = true → j < i := by
  intro i
  induction i using Nat.strongRecOn with
  | _ i ih =>
    intro j hj
    by_cases hi : i < ops.size
    · have ho : ops[i]? = some ops[i] := Array.getElem?_eq_getElem hi
      obtain ⟨e, he, hb, h⟩ := r.via i _ j ho hj
      have hlt := r.back i _ ho e he hb
      rcases h with rfl | h
      · exact hlt
      · exact Nat.lt_trans (ih _ hlt j h) hlt
    · rw [hn i (by omega)] at hj; simp at hj

theorem afterAll_iff (b : Nat) : ∀ i, afterAll b i = true ↔ ∀ j, j < i → b.testBit j = true
  | 0 => by simp [afterAll]
  | i + 1 => by
    simp only [afterAll, Bool.and_eq_true, afterAll_iff b i]
    constructor
    · rintro ⟨h1, h2⟩ j hj
      by_cases e : j = i
      · subst e; exact h1
      · exact h2 j (by omega)
    · intro h; exact ⟨h i (by omega), fun j hj => h j (by omega)⟩
theorem quietLen_le (bef : Array Nat) : ∀ n, quietLen bef n ≤ n
  | 0 => by simp [quietLen]
  | n + 1 => by simp only [quietLen]; split; have := quietLen_le bef n; omega; omega
theorem quietLen_after (bef : Array Nat) : ∀ n i, quietLen bef n ≤ i → i < n → afterAll (bef.getD i 0) i = true
  | 0, i, _, h => by omega
  | n + 1, i, h1, h2 => by
    simp only [quietLen] at h1
    split at h1
    · rename_i ha
      by_cases e : i = n
      · subst e; exact ha
      · exact quietLen_after bef n i h1 (by omega)
    · omega

/-! ### the machine's order -/
theorem ready_iff {ops : Array Oper} {listed : Array Bool} {i : Nat} (hs : listed.size = ops.size) : i ∈ Region.ready .any ops listed ↔ ∃ o, ops[i]? = some o ∧ listed.getD i false = false ∧ ∀ e ∈ o.after.toList, Region.binds .any e = true → listed.getD e.on false = true := by
  unfold Region.ready
  rw [List.mem_filter, List.mem_range]
  constructor
  · rintro ⟨hi, h⟩
    have ho : ops[i]? = some ops[i] := Array.getElem?_eq_getElem hi
    rw [ho] at h
    simp only [Bool.and_eq_true, Bool.not_eq_true', Option.map_some, Option.getD_some] at h
    refine ⟨_, ho, ?_, fun e he hb => ?_⟩
    · have : listed[i]? = some listed[i] := Array.getElem?_eq_getElem (by omega)
      simp only [Array.getD_eq_getD_getElem?, this, Option.getD_some] at h ⊢; exact h.1
    · have := Array.all_eq_true'.1 h.2 e (by simpa using he)
      simpa [hb] using this
  · rintro ⟨o, ho, h1, h2⟩
    have hi : i < ops.size := (Array.getElem?_eq_some_iff.1 ho).1
    refine ⟨hi, ?_⟩
    rw [ho]
    simp only [Bool.and_eq_true, Bool.not_eq_true', Option.map_some, Option.getD_some]
    refine ⟨?_, Array.all_eq_true'.2 fun e he => ?_⟩
    · have : listed[i]? = some listed[i] := Array.getElem?_eq_getElem (by omega)
      simp only [Array.getD_eq_getD_getElem?, this, Option.getD_some] at h1 ⊢; exact h1
    · cases hb : Region.binds .any e with
      | false => simp
      | true => simpa using h2 e (by simpa using he) hb

theorem go_step (ops : Array Oper) (fuel t : Nat) (listed : Array Bool) (hne : Region.ready .any ops listed ≠ []) :
    ∃ i t', i ∈ Region.ready .any ops listed ∧ Region.linearise.go .any ops (fuel + 1) t listed [] = i :: Region.linearise.go .any ops fuel t' (listed.setIfInBounds i true) [] := by
  have hlen : 0 < (Region.ready .any ops listed).length := List.length_pos_iff.2 hne
  have hlt : t % (Region.ready .any ops listed).length < (Region.ready .any ops listed).length := Nat.mod_lt _ hlen
  refine ⟨(Region.ready .any ops listed)[t % (Region.ready .any ops listed).length], t / (Region.ready .any ops listed).length, List.getElem_mem hlt, ?_⟩
  simp only [Region.linearise.go]
  change (match (Region.ready .any ops listed)[t % (Region.ready .any ops listed).length]? with
      | some i => Region.linearise.go .any ops fuel (t / (Region.ready .any ops listed).length) (listed.setIfInBounds i true) [i]
      | none => [].reverse) = _
  rw [List.getElem?_eq_getElem hlt]
  simp only
  rw [linearise_go_acc]
  rfl

/-- some operation is ready while one is not listed -/
theorem ready_ne [E : Env] {ops : Array Oper} {bef : Array Nat} (r : Order ops bef) {listed : Array Bool} (hs : listed.size = ops.size) {i : Nat} (hi : i < ops.size) (hl : listed.getD i false = false) : Region.ready .any ops listed ≠ [] := by
  have key : ∀ i, i < ops.size → listed.getD i false = false → ∃ j, j ∈ Region.ready .any ops listed := by
    intro i
    induction i using Nat.strongRecOn with
    | _ i ih =>
      intro hi hl
      have ho : ops[i]? = some ops[i] := Array.getElem?_eq_getElem hi
      by_cases hall : ∀ e ∈ ops[i].after.toList, Region.binds .any e = true → listed.getD e.on false = true
      · exact ⟨i, (ready_iff hs).2 ⟨_, ho, hl, hall⟩⟩
      · have : ∃ e ∈ ops[i].after.toList, Region.binds .any e = true ∧ listed.getD e.on false = false := by
          apply Classical.byContradiction
          intro hn
          apply hall
          intro e he hb
          cases hx : listed.getD e.on false with
          | true => rfl
          | false => exact absurd ⟨e, he, hb, hx⟩ hn
        obtain ⟨e, he, hb, hx⟩ := this
        have hlt := r.back i _ ho e he hb
        exact ih e.on hlt (by omega) hx
  obtain ⟨j, hj⟩ := key i hi hl
  exact List.ne_nil_of_mem hj

theorem getD_set (listed : Array Bool) (i j : Nat) (hi : i < listed.size) : (listed.setIfInBounds i true).getD j false = if j = i then true else listed.getD j false := by
  simp only [Array.getD_eq_getD_getElem?]
  by_cases e : j = i
  · subst e; rw [if_pos rfl, Array.getElem?_setIfInBounds_self_of_lt hi]; rfl
  · rw [if_neg e, Array.getElem?_setIfInBounds_ne (fun h => e h.symm)]

/-- from m on the order is the text's -/
theorem seqOrder [E : Env] {ops : Array Oper} {bef : Array Nat} (r : Order ops bef) (hn : ∀ i, ops.size ≤ i → bef.getD i 0 = 0) : ∀ (k j t : Nat) (listed : Array Bool), listed.size = ops.size → j + k = ops.size → (∀ i, i < ops.size → listed.getD i false = decide (i < j)) →
    (∀ i, j ≤ i → i < ops.size → afterAll (bef.getD i 0) i = true) → Region.linearise.go .any ops k t listed [] = List.range' j k
  | 0, j, t, listed, _, _, _, _ => rfl
  | k + 1, j, t, listed, hs, hk, hl, ha => by
    have hj : j < ops.size := by omega
    obtain ⟨i, t', hi, hgo⟩ := go_step ops k t listed (ready_ne r hs hj (by rw [hl j hj]; simp))
    obtain ⟨o, ho, h1, h2⟩ := (ready_iff hs).1 hi
    have hio : i < ops.size := (Array.getElem?_eq_some_iff.1 ho).1
    rw [hl i hio] at h1
    have hge : j ≤ i := by simpa using h1
    have hij : i = j := by
      apply Classical.byContradiction
      intro hne
      have hbit := (afterAll_iff _ i).1 (ha i hge hio) j (by omega)
      obtain ⟨e, he, hb, h⟩ := r.via i o j ho hbit
      have hlisted := h2 e he hb
      have hlt := r.back i o ho e he hb
      rw [hl e.on (by omega)] at hlisted
      have hej : e.on < j := by simpa using hlisted
      rcases h with h | h
      · omega
      · have := r.bits hn _ _ h; omega
    subst hij
    rw [hgo, List.range'_succ]
    congr 1
    exact seqOrder r hn k (i + 1) t' _ (by simpa using hs) (by omega) (fun q hq => by
      rw [getD_set _ _ _ (by omega)]
      by_cases e : q = i
      · subst e; simp
      · rw [if_neg e, hl q hq]
        have : (q < i) ↔ (q < i + 1) := by omega
        simp [this]) (fun q h1 h2 => ha q (by omega) h2)
end
end Go.Ab
