/- What the law's proof leans on, part 48. Conditions: in each statement. -/
import Derived.Test.YtibehelnfbcnjaaGreatDoorQW21
import Derived.ChangeShapes
import Derived.ChangeArms
import Derived.OpenShut
import Derived.WideKeyArgs
import Derived.WalkKit
import Derived.ProofKit
import Derived.ShutString
import Derived.ChangeOld
import Derived.SizedLaws
import Derived.Below
set_option linter.all false
namespace Go.Ab
open Go Go.RowKit
set_option linter.unusedSimpArgs false
set_option linter.unusedVariables false
def zgv (P : Program) : List Field → Nat → Nat → Bool
  | [], o, sz => o == sz
  | f :: fs, o, sz => f.offset == o && zgv P fs (o + P.cellsOf f.type) sz
def zg9 (P : Program) (t : TypeId) : Bool := match P.underlying t with | some (.struct _) | some (.array ..) => true | _ => false
def yaet (P : Program) (n : Nat) : TypeId → Bool := Nat.rec (fun _ => false) (fun _ ih t => match P.underlying t with
  | some (.int _) | some .bool | some .string => true
  | some (.struct fs) => zgv P fs.toList 0 (P.cellsOf t) && fs.toList.all fun f => ih f.type
  | some (.slice e) => decide (0 < P.cellsOf e) && (zg9 P e || decide (P.cellsOf e = 1)) && ih e
  | _ => false) n
def ShF (S : TypeId → List AV → Prop) : List TypeId → List AV → Prop
  | [], cs => cs = []
  | t :: ts, cs => ∃ c1 c2, cs = c1 ++ c2 ∧ S t c1 ∧ ShF S ts c2
def zay (P : Program) (t : TypeId) (cs : List AV) : AV := if zg9 P t then .agg cs else cs.headD undefA
def ShC (P : Program) (n : Nat) : TypeId → List AV → Prop := Nat.rec (fun _ _ => False) (fun _ ih t cs => match P.underlying t with
  | some (.int k) => ∃ i, cs = [.int k i] ∧ (Lit.int k i).wf = true
  | some .bool => ∃ b, cs = [.bool b]
  | some .string => ∃ s : ByteArray, cs = [.str s] ∧ s.size ≤ reachBytes
  | some (.struct fs) => ShF ih (fs.toList.map (·.type)) cs
  | some (.slice e) => ∃ a cap l, cs = [.rsl a cap (P.cellsOf e) l] ∧ l.length ≤ reachBytes ∧ (l ≠ [] → a.isSome = true) ∧ ∀ x ∈ l, ∃ c, x = zay P e c ∧ ih e c
  | _ => False) n
theorem zht (P : Program) (n : Nat) (t : TypeId) (cs : List AV) : ShC P (n + 1) t cs = match P.underlying t with
  | some (.int k) => ∃ i, cs = [.int k i] ∧ (Lit.int k i).wf = true
  | some .bool => ∃ b, cs = [.bool b]
  | some .string => ∃ s : ByteArray, cs = [.str s] ∧ s.size ≤ reachBytes
  | some (.struct fs) => ShF (ShC P n) (fs.toList.map (·.type)) cs
  | some (.slice e) => ∃ a cap l, cs = [.rsl a cap (P.cellsOf e) l] ∧ l.length ≤ reachBytes ∧ (l ≠ [] → a.isSome = true) ∧ ∀ x ∈ l, ∃ c, x = zay P e c ∧ ShC P n e c
  | _ => False := rfl
theorem yapp (P : Program) (n : Nat) (t : TypeId) : yaet P (n + 1) t = match P.underlying t with
  | some (.int _) | some .bool | some .string => true
  | some (.struct fs) => zgv P fs.toList 0 (P.cellsOf t) && fs.toList.all fun f => yaet P n f.type
  | some (.slice e) => decide (0 < P.cellsOf e) && (zg9 P e || decide (P.cellsOf e = 1)) && yaet P n e
  | _ => false := rfl
theorem zli (ι : Inj) : ∀ a b : List AV, AV.concL ι (a ++ b) = AV.concL ι a ++ AV.concL ι b
  | [], b => rfl
  | x :: a, b => by simp [AV.concL, zli ι a b]
theorem zss (ι : Inj) : ∀ a : List AV, (AV.concL ι a).length = a.length
  | [] => rfl
  | x :: a => by simp [AV.concL, zss ι a]
theorem zqr (ι : Inj) : ∀ (a : List AV) (j : Nat) (c : AV), a[j]? = some c → (AV.concL ι a)[j]? = some (c.conc ι)
  | [], j, c, h => by simp at h
  | x :: a, 0, c, h => by simp at h; subst h; simp [AV.concL]
  | x :: a, j + 1, c, h => by simp only [List.getElem?_cons_succ] at h; simp only [AV.concL, List.getElem?_cons_succ]; exact zqr ι a j c h
theorem zxm {w : World} {a : Addr} {v : Value} (h : w.cell? a = some v) : a.block < w.heap.size := by
  by_cases e : a.block < w.heap.size
  · exact e
  · have : w.heap[a.block]? = none := Array.getElem?_eq_none (by omega)
    unfold World.cell? at h
    simp [this] at h
theorem yaki {α : Type} [Inhabited α] {p : Nat → α → Prop} : ∀ n : Nat, (∀ i, i < n → ∃ x, p i x) → ∃ l : List α, l.length = n ∧ ∀ i x, l[i]? = some x → p i x
  | 0, _ => ⟨[], rfl, by simp⟩
  | n + 1, h => by
    obtain ⟨l, h1, h2⟩ := yaki n fun i hi => h i (by omega)
    obtain ⟨x, hx⟩ := h n (by omega)
    refine ⟨l ++ [x], by simp [h1], fun i q hq => ?_⟩
    rw [List.getElem?_append] at hq
    split at hq
    · exact h2 i q hq
    · rename_i hge
      have e : i - l.length = 0 := by
        by_cases e : i - l.length = 0
        · exact e
        · rw [List.getElem?_eq_none (by simp; omega)] at hq; cases hq
      rw [e] at hq
      simp at hq
      subst hq
      obtain rfl : i = n := by omega
      exact hx
theorem zm6 {α β : Type} {f : β → α} {p : β → Prop} : ∀ l : List α, (∀ x ∈ l, ∃ y, x = f y ∧ p y) → ∃ ys : List β, l = ys.map f ∧ ∀ y ∈ ys, p y
  | [], _ => ⟨[], rfl, by simp⟩
  | x :: l, h => by
    obtain ⟨y, rfl, hy⟩ := h x (by simp)
    obtain ⟨ys, rfl, hys⟩ := zm6 l fun x hx => h x (by simp [hx])
    exact ⟨y :: ys, rfl, fun z hz => (List.mem_cons.1 hz).elim (fun e => e ▸ hy) (hys z)⟩
section
variable {H : Type} {enc : TypeId × Value → H} {P : Program} {W : World}
theorem zny {S : TypeId → List AV → Prop} {cs : List Value} {sz : Nat} (hcs : cs.length = sz) (ok : List AV → Prop) (hnil : ok []) (happ : ∀ a b, ok a → ok b → ok (a ++ b)) :
    ∀ (fs : List Field) (o : Nat), zgv P fs o sz = true → o ≤ sz → (∀ f ∈ fs, ∃ vs, (∀ ι, AV.concL ι vs = (cs.drop f.offset).take (P.cellsOf f.type)) ∧ ok vs ∧ S f.type vs) →
    ∃ vs, (∀ ι, AV.concL ι vs = cs.drop o) ∧ ok vs ∧ ShF S (fs.map (·.type)) vs
  | [], o, hc, ho, h => by
    simp [zgv] at hc
    subst hc
    exact ⟨[], fun ι => by simp [AV.concL, ← hcs], hnil, rfl⟩
  | f :: fs, o, hc, ho, h => by
    simp only [zgv, Bool.and_eq_true, beq_iff_eq] at hc
    obtain ⟨rfl, hc⟩ := hc
    obtain ⟨v1, a1, b1, c1⟩ := h f (by simp)
    have hle : f.offset + P.cellsOf f.type ≤ sz := contig_le fs _ hc
    obtain ⟨v2, a2, b2, c2⟩ := zny hcs ok hnil happ fs _ hc hle (fun g hg => h g (by simp [hg]))
    refine ⟨v1 ++ v2, fun ι => ?_, happ _ _ b1 b2, v1, v2, rfl, c1, c2⟩
    rw [zli, a1, a2, ← List.drop_drop, List.take_append_drop]
where contig_le {P : Program} {sz : Nat} : ∀ (fs : List Field) (o : Nat), zgv P fs o sz = true → o ≤ sz
  | [], o, h => by simp [zgv] at h; omega
  | f :: fs, o, h => by
    simp only [zgv, Bool.and_eq_true, beq_iff_eq] at h
    have := contig_le fs _ h.2
    omega
theorem zrg {n : Nat} {e : TypeId} (hag : zg9 P e = true ∨ P.cellsOf e = 1) (c : List AV) (hc : c.length = P.cellsOf e) (hs : ShC P n e c) : (zay P e c).cells = c := by
  unfold zay
  split
  · rfl
  · rename_i hna
    cases n with
    | zero => exact hs.elim
    | succ n =>
      rw [zht] at hs
      unfold zg9 at hna
      split at hs
      · obtain ⟨i, rfl, _⟩ := hs; rfl
      · obtain ⟨b, rfl⟩ := hs; rfl
      · obtain ⟨s, rfl, _⟩ := hs; rfl
      · rename_i hu; rw [hu] at hna; simp at hna
      · obtain ⟨a, cap, l, rfl, _⟩ := hs; rfl
      · exact hs.elim
theorem zzz {w0 : World} {b k : Nat} {n : Nat} {e : TypeId} (hag : zg9 P e = true ∨ P.cellsOf e = 1) (c : List AV) (hc : c.length = P.cellsOf e) (hs : ShC P n e c) (h : AV.OKL w0 b k c) : (zay P e c).OK w0 b k := by
  unfold zay
  split
  · simpa [AV.OK] using h
  · rename_i hna
    rcases hag with hag | h1
    · exact absurd hag hna
    · match c, hc with
      | [y], _ => simpa [AV.OKL] using h
      | [], hc => simp at hc; omega
      | _ :: _ :: _, hc => simp at hc; omega
theorem zms {t : TypeId} {W W' : World} {v : Value} {d : DataW H} {ps : List MemPlace} (hl : laidOutB P = true) (hr : P.readableRec t = true) (hrow : t < P.types.size)
    (h : DataW.Trod enc P W 0 (fun _ => true) true t v d ps) (bel : Below W.heap.size W W') : DataW.Trod enc P W' 0 (fun b => decide (b < W.heap.size)) true t v d ps := by
  have hlt : ∀ p ∈ ps, p.block < W.heap.size := by
    obtain ⟨n, hn⟩ := h
    exact DataW.trod_lt n t _ _ hn
  exact Go.WideElems.Trod_stays hl hr hrow h (fun p hp => bel.same (hlt p hp)) (fun p hp => by simpa using hlt p hp)
end
end Go.Ab
