/- The abstract interpreter is sound, 15: a region whose order is open. Conditions: none. -/
import Derived.Test.YtlbkcdfllglddaaAb17
set_option linter.unusedSimpArgs false
set_option linter.unusedVariables false
namespace Go.Ab
open Go Go.RowKit
section
variable {P : Program} {w0 : World} {base lo : Nat} {ι ι1 ι2 : Inj} {H H1 H2 : Heap} {w w1 w2 : World} {ex : ExF}
variable {ops : Array Oper} {bef : Array Nat} {m : Nat} {e : Nat → List AV} {h : Nat → Heap} {kp : Nat → List (Nat × Nat × Nat)} {val : Nat → AV}

/-- block b is there when the operations that D lists have been carried out -/
def Live (h : Nat → Heap) (m : Nat) (D : Nat → Bool) (b : Nat) (x : Blk) : Prop :=
  (b < (h 0).next ∧ (h 0).get b = some x) ∨ ∃ i, i < m ∧ D i = true ∧ (h i).next ≤ b ∧ b < (h (i + 1)).next ∧ (h m).get b = some x

structure Inv (P : Program) (w0 : World) (base : Nat) (ι0 : Inj) (w00 : World) (marks : List Nat) (ops : Array Oper) (bef : Array Nat) (m : Nat) (e : Nat → List AV) (h : Nat → Heap) (val : Nat → AV) (kp : Nat → List (Nat × Nat × Nat)) (D : Nat → Bool) (ι : Inj) (w : World) (a : Act) : Prop where
  dm : ∀ i, D i = true → i < m
  dc : ∀ i, D i = true → ∀ j, (bef.getD i 0).testBit j = true → D j = true
  tsz : a.tmps.size = (e 0).length
  tm : ∀ t, a.tmps[t]? = (valT ops (e 0) val D m t).map (AV.conc ι)
  vok : ∀ i, D i = true → (val i).OK w0 base (h (i + 1)).next
  vis : ∀ i, D i = true → (val i).all (visA (bef.getD i 0) (kp i)) = true
  dfs : a.defers = marks.map (markOf ι)
  ext : ∀ b, b < (h 0).next → ι b = ι0 b
  below : Below base w0 w
  inj : ∀ b b' x x', Live h m D b x → Live h m D b' x' → (ι b).1 = (ι b').1 → b = b'
  lo : ∀ b x, Live h m D b x → base ≤ (ι b).1
  rel : ∀ b x, Live h m D b x → BlkRel P ι (ι b).2 w.heap[(ι b).1]? x
  bok : ∀ i b x, D i = true → (h i).next ≤ b → b < (h (i + 1)).next → (h m).get b = some x → BlkOK w0 base (h (i + 1)).next x ∧ x.all (visA (bef.getD i 0) (kp i)) = true
  size : w00.heap.size ≤ w.heap.size
  frame : ∀ r, r < w00.heap.size → w.heap[r]? = w00.heap[r]?
  fresh : ∀ i b x, D i = true → (h i).next ≤ b → b < (h (i + 1)).next → (h m).get b = some x → w00.heap.size ≤ (ι b).1

theorem valT_le (D : Nat → Bool) (env0 : List AV) (t i : Nat) : ∀ k, i ≤ k → (∀ j, i ≤ j → j < k → D j = true → dstOf ops j ≠ some t) → valT ops env0 val D k t = valT ops env0 val D i t := by
  intro k hk
  induction hk with
  | refl => exact fun _ => rfl
  | step hk ih =>
    rename_i k
    intro hw
    rw [valT, if_neg (fun q => hw k hk (by omega) q.1 q.2.1), ih (fun j h1 h2 => hw j h1 (by omega))]
theorem valT_same (env0 : List AV) (t : Nat) (D D' : Nat → Bool) : ∀ k, (∀ j, j < k → dstOf ops j = some t → D j = D' j) → valT ops env0 val D k t = valT ops env0 val D' k t
  | 0, _ => rfl
  | k + 1, hw => by
    simp only [valT]
    rw [valT_same env0 t D D' k (fun j hj => hw j (by omega))]
    by_cases hd : dstOf ops k = some t
    · rw [hw k (by omega) hd]
    · simp [hd]
/-- what a temporary holds is of the start, or an operation's -/
theorem valT_cases (env0 : List AV) (D : Nat → Bool) (t : Nat) : ∀ (k : Nat) (v : AV), valT ops env0 val D k t = some v → (v ∈ env0) ∨ ∃ j, j < k ∧ D j = true ∧ v = val j
  | 0, v, hv => .inl (List.mem_of_getElem? hv)
  | k + 1, v, hv => by
    simp only [valT] at hv
    split at hv
    · rename_i hc; cases hv; exact .inr ⟨k, by omega, hc.1, rfl⟩
    · rcases valT_cases env0 D t k v hv with h | ⟨j, h1, h2⟩
      · exact .inl h
      · exact .inr ⟨j, by omega, h2⟩

theorem raceFree_spec (hr : raceFree ops bef = true) {i j : Nat} {x y : Oper} (hi : ops[i]? = some x) (hj : ops[j]? = some y) (hne : i ≠ j) (h1 : (bef.getD i 0).testBit j = false) (h2 : (bef.getD j 0).testBit i = false) :
    ∀ d, x.dst = some d → d ∉ needs ops y ∧ y.dst ≠ some d := by
  intro d hd
  have hi' : i < ops.size := (Array.getElem?_eq_some_iff.1 hi).1
  have hj' : j < ops.size := (Array.getElem?_eq_some_iff.1 hj).1
  have := List.all_eq_true.1 (List.all_eq_true.1 hr i (List.mem_range.2 hi')) j (List.mem_range.2 hj')
  simp only [hi, hj, h1, h2, hd, Bool.or_false, Bool.or_eq_true, beq_iff_eq, Bool.and_eq_true, Bool.not_eq_true', bne_iff_ne, ne_eq] at this
  rcases this with h | h
  · exact absurd h hne
  · refine ⟨fun hm => ?_, h.2⟩
    have := h.1
    simp [List.contains_iff_mem, hm] at this

/-- the ids that an operation j's value names, while operation i hasn't been carried out: none of i's -/
theorem ids_apart [E : Env] (T : Trace P ex ops bef m e h kp val) {D : Nat → Bool} {i j : Nat} (hi : i < m) (hj : j < m) (hDi : D i = false) (hDj : D j = true) (hdc : ∀ q, (bef.getD j 0).testBit q = true → D q = true) {b : Nat}
    (h1 : b < (h (j + 1)).next) (h2 : visA (bef.getD j 0) (kp j) b = true) : ¬ ((h i).next ≤ b ∧ b < (h (i + 1)).next) := by
  rintro ⟨h3, h4⟩
  by_cases hij : i < j
  · obtain ⟨k1, k2⟩ := T.kept j (by omega)
    obtain ⟨q, hq, hqi⟩ := k2 i hij (by omega)
    obtain ⟨_, h5, h6⟩ := k1 q hq
    have := List.all_eq_true.1 h2 q hq
    rw [hqi] at h5 h6 this
    have hb : (bef.getD j 0).testBit i = false := by
      cases hx : (bef.getD j 0).testBit i with
      | false => rfl
      | true => rw [hdc i hx] at hDi; cases hDi
    rw [hb] at this
    simp at this
    omega
  · by_cases hji : j = i
    · subst hji; rw [hDj] at hDi; cases hDi
    · have := (T.mono (j + 1) i (by omega) (by omega)).1
      omega
end
end Go.Ab
