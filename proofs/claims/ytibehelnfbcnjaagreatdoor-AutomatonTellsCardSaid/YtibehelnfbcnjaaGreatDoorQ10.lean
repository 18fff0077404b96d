/- What the law's proof leans on, part 50. Conditions: in each statement. -/
import Derived.Test.YtibehelnfbcnjaaGreatDoorQ9
import Derived.Test.YtibehelnfbcnjaaGreatDoorQX2
import Derived.Test.YtibehelnfbcnjaaGreatDoorRows
import Derived.FnData
import Derived.WalkKit
import Derived.ProofKit
import Derived.OpenShut
import Derived.ShutString
import Derived.ChangeOld
import Derived.Below
import Derived.SizedLaws
import Derived.Handed
import Derived.Test.YtibehelnfbcnjaaGreatDoorQ6
set_option linter.all false
namespace Go.Proofs.YtibehelnfbcnjaaGreatDoor.v
open Go Go.Ab
set_option maxRecDepth 100000
set_option linter.unusedSimpArgs false
set_option linter.unusedVariables false
def yacs (P : Program) (t : TypeId) : Option (List TypeId) := match P.underlying t with | some (.struct fs) => some (fs.toList.map (·.type)) | _ => none
def intT (P : Program) (t : TypeId) : Option IntKind := match P.underlying t with | some (.int k) => some k | _ => none
def zlz (P : Program) (t : TypeId) : Option TypeId := match P.underlying t with | some (.slice e) => some e | _ => none
def strT (P : Program) (t : TypeId) : Bool := match P.underlying t with | some .string => true | _ => false
theorem zff {P : Program} {n : Nat} {t : TypeId} {ts : List TypeId} {c : List AV} (hu : yacs P t = some ts) (h : ShC P n t c) : ∃ k, k < n ∧ ShF (ShC P k) ts c := by
 cases n with
 | zero => exact h.elim
 | succ n =>
  rw [zht] at h
  unfold yacs at hu
  split at hu
  ·rename_i fs e
   rw [e] at h
   injection hu with hu
   subst hu
   exact ⟨n, by omega, h⟩
  ·cases hu
theorem zbi {P : Program} {n : Nat} {t : TypeId} {k : IntKind} {c : List AV} (hu : intT P t = some k) (h : ShC P n t c) : ∃ i, c = [.int k i] ∧ (Lit.int k i).wf = true := by
 cases n with
 | zero => exact h.elim
 | succ n =>
  rw [zht] at h
  unfold intT at hu
  split at hu
  ·rename_i k' e
   rw [e] at h
   injection hu with hu
   subst hu
   exact h
  ·cases hu
theorem zh5 : reachBytes < 1000000000000000 := by decide
theorem znz {P : Program} {n : Nat} {t : TypeId} {c : List AV} (hu : strT P t = true) (h : ShC P n t c) : ∃ s : ByteArray, c = [.str s] ∧ s.size < 2 ^ 62 := by
 cases n with
 | zero => exact h.elim
 | succ n =>
  rw [zht] at h
  unfold strT at hu
  split at hu
  ·rename_i e
   rw [e] at h
   obtain ⟨s, h1, h2⟩ := h
   have := zh5
   exact ⟨s, h1, by omega⟩
  ·cases hu
theorem yaup {P : Program} {n : Nat} {t e : TypeId} {z : Nat} {c : List AV} {α : Type} {f : α → AV} {q : α → Prop} (hu : zlz P t = some e) (hz : P.cellsOf e = z) (he : ∀ k c, k < n → ShC P k e c → ∃ x, zay P e c = f x ∧ q x) (h : ShC P n t c) :
  ∃ a cap l, c = [.rsl a cap z (l.map f)] ∧ (l ≠ [] → a.isSome = true) ∧ l.length < 2 ^ 62 ∧ ∀ x ∈ l, q x := by
 cases n with
 | zero => exact h.elim
 | succ n =>
  rw [zht] at h
  unfold zlz at hu
  split at hu
  ·rename_i e' hh
   rw [hh] at h
   injection hu with hu
   subst hu
   obtain ⟨a, cap, l, h1, h2, h3, h4⟩ := h
   obtain ⟨ys, h5, h6⟩ := zm6 (f := f) (p := q) l (fun x hx => by
    obtain ⟨c, rfl, hc⟩ := h4 x hx
    exact he n c (by omega) hc)
   subst h5
   rw [hz] at h1
   have := zh5
   simp only [List.length_map] at h2
   exact ⟨a, cap, ys, h1, fun hn => h3 (by simpa using hn), by omega, h6⟩
  ·cases hu
theorem yazo {α : Type} {a : Option Addr} {cap : Nat} {l : List α} (h : l ≠ [] → a.isSome = true) : ∃ p : Pl, a = slA p l ∧ p.cap = cap := by
 cases a with
 | some a => exact ⟨⟨a, false, cap⟩, by simp [slA], rfl⟩
 | none =>
  have : l = [] := Classical.byContradiction fun hn => by have := h hn; cases this
  subst this
  exact ⟨⟨⟨0, 0, none⟩, true, cap⟩, by simp [slA], rfl⟩
theorem zhi {P : Program} {n : Nat} {t e : TypeId} {z : Nat} {c : List AV} {α : Type} {f : α → AV} {q : α → Prop} (hu : zlz P t = some e) (hz : P.cellsOf e = z) (he : ∀ k c, k < n → ShC P k e c → ∃ x, zay P e c = f x ∧ q x) (h : ShC P n t c) :
  ∃ (p : Pl) (l : List α), c = [.rsl (slA p l) p.cap z (l.map f)] ∧ l.length < 2 ^ 62 ∧ ∀ x ∈ l, q x := by
 obtain ⟨a, cap, l, h1, h2, h3, h4⟩ := yaup hu hz he h
 obtain ⟨p, rfl, rfl⟩ := yazo (cap := cap) h2
 exact ⟨p, l, h1, h3, h4⟩
theorem zit {P : Program} {t : TypeId} {c : List AV} (h : zg9 P t = true) : zay P t c = .agg c := by unfold zay; rw [h]; rfl
theorem zp2 {P : Program} {t : TypeId} {x : AV} (h : zg9 P t = false) : zay P t [x] = x := by unfold zay; rw [h]; rfl
theorem zzd {i : Int} (h : (Lit.int .u64 i).wf = true) : 0 ≤ i ∧ i < 18446744073709551616 := by
 simp only [Lit.wf, Bool.and_eq_true, decide_eq_true_eq] at h
 have h1 : IntKind.u64.min = 0 := by decide
 have h2 : IntKind.u64.max = 18446744073709551615 := by decide
 omega
theorem yaz9 {i : Int} (h : (Lit.int .u8 i).wf = true) : 0 ≤ i ∧ i < 256 := by
 simp only [Lit.wf, Bool.and_eq_true, decide_eq_true_eq] at h
 have h1 : IntKind.u8.min = 0 := by decide
 have h2 : IntKind.u8.max = 255 := by decide
 omega
theorem zn0 : ∀ n c, ShC Tryz.prog n 81 c → ∃ t : MTerm, c = t.cs ∧ RawT t ∧ NumT t := by
 intro n
 induction n using Nat.strongRecOn with
 | _ n ih =>
 intro c h
 obtain ⟨k, hk, h⟩ := zff (ts := [5, 3, 65, 9, 3, 79]) (by kernel_rfl) h
 obtain ⟨_, _, rfl, g1, _, _, rfl, g2, _, _, rfl, g3, _, _, rfl, g4, _, _, rfl, g5, _, _, rfl, g6, rfl⟩ := h
 obtain ⟨kd, rfl, w1⟩ := zbi (k := .u8) (by kernel_rfl) g1
 obtain ⟨wd, rfl, _⟩ := zbi (k := .i64) (by kernel_rfl) g2
 obtain ⟨bt, rfl, w3⟩ := zbi (k := .u64) (by kernel_rfl) g3
 obtain ⟨nm, rfl, w4⟩ := znz (by kernel_rfl) g4
 obtain ⟨lo, rfl, _⟩ := zbi (k := .i64) (by kernel_rfl) g5
 obtain ⟨p, l, rfl, hl, hq⟩ := zhi (e := 81) (z := 6) (f := zaf) (q := fun t => RawT t ∧ NumT t) (by kernel_rfl) (by kernel_rfl) (fun j c hj hc => by
  obtain ⟨t, rfl, q⟩ := ih j (by omega) c hc
  exact ⟨t, zit (by kernel_rfl), q⟩) g6
 have a1 := yaz9 w1
 have a3 := zzd w3
 have key : ∀ x ∈ (MTerm.mk kd wd bt nm lo p l).nodes, x = .mk kd wd bt nm lo p l ∨ ∃ y ∈ l, x ∈ y.nodes := fun x hx => by
  rw [zgd, List.mem_cons] at hx
  rcases hx with hx | hx
  ·exact .inl hx
  ·obtain ⟨y, hy, hx⟩ := List.mem_flatMap.1 hx
   exact .inr ⟨y, hy, hx⟩
 refine ⟨.mk kd wd bt nm lo p l, ?_, ⟨?_, ?_⟩, ⟨?_, ?_⟩⟩
 ·rw [MTerm.cs, zm9]; rfl
 ·intro x hx
  rcases key x hx with rfl | ⟨y, hy, hx⟩
  ·exact hl
  ·exact (hq y hy).1.l x hx
 ·intro x hx
  rcases key x hx with rfl | ⟨y, hy, hx⟩
  ·exact w4
  ·exact (hq y hy).1.n x hx
 ·intro x hx
  rcases key x hx with rfl | ⟨y, hy, hx⟩
  ·exact a1.1
  ·exact (hq y hy).2.k x hx
 ·intro x hx
  rcases key x hx with rfl | ⟨y, hy, hx⟩
  ·exact a3.2
  ·exact (hq y hy).2.b x hx
theorem yaiw {n : Nat} {c : List AV} (h : ShC Tryz.prog n 153 c) : ∃ r : MReg, zay Tryz.prog 153 c = zgp r ∧ r.name.size < 2 ^ 62 := by
 obtain ⟨k, hk, h⟩ := zff (ts := [9, 3, 3, 3]) (by kernel_rfl) h
 obtain ⟨_, _, rfl, g1, _, _, rfl, g2, _, _, rfl, g3, _, _, rfl, g4, rfl⟩ := h
 obtain ⟨nm, rfl, w⟩ := znz (by kernel_rfl) g1
 obtain ⟨a, rfl, _⟩ := zbi (k := .i64) (by kernel_rfl) g2
 obtain ⟨b, rfl, _⟩ := zbi (k := .i64) (by kernel_rfl) g3
 obtain ⟨d, rfl, _⟩ := zbi (k := .i64) (by kernel_rfl) g4
 exact ⟨⟨nm, a, b, d⟩, zit (by kernel_rfl), w⟩
theorem yapk {n : Nat} {c : List AV} (h : ShC Tryz.prog n 71 c) : ∃ r : MUn, zay Tryz.prog 71 c = unV r ∧ r.name.size < 2 ^ 62 := by
 obtain ⟨k, hk, h⟩ := zff (ts := [9, 3]) (by kernel_rfl) h
 obtain ⟨_, _, rfl, g1, _, _, rfl, g2, rfl⟩ := h
 obtain ⟨nm, rfl, w⟩ := znz (by kernel_rfl) g1
 obtain ⟨a, rfl, _⟩ := zbi (k := .i64) (by kernel_rfl) g2
 exact ⟨⟨nm, a⟩, zit (by kernel_rfl), w⟩
theorem yaeh {n : Nat} {c : List AV} (h : ShC Tryz.prog n 74 c) : ∃ r : MBank, zay Tryz.prog 74 c = zbv r ∧ True := by
 obtain ⟨k, hk, h⟩ := zff (ts := [9, 31]) (by kernel_rfl) h
 obtain ⟨_, _, rfl, g1, _, _, rfl, g2, rfl⟩ := h
 obtain ⟨nm, rfl, w⟩ := znz (by kernel_rfl) g1
 obtain ⟨p, l, rfl, _, _⟩ := zhi (e := 3) (z := 1) (f := zat) (q := fun _ => True) (by kernel_rfl) (by kernel_rfl) (fun j c hj hc => by
  obtain ⟨i, rfl, _⟩ := zbi (k := .i64) (by kernel_rfl) hc
  exact ⟨i, zp2 (by kernel_rfl), trivial⟩) g2
 exact ⟨⟨nm, p, l⟩, zit (by kernel_rfl), trivial⟩
theorem yaae {n : Nat} {c : List AV} (h : ShC Tryz.prog n 181 c) : ∃ r : MPiece, zay Tryz.prog 181 c = ze4 r ∧ True := by
 obtain ⟨k, hk, h⟩ := zff (ts := [3, 3]) (by kernel_rfl) h
 obtain ⟨_, _, rfl, g1, _, _, rfl, g2, rfl⟩ := h
 obtain ⟨a, rfl, _⟩ := zbi (k := .i64) (by kernel_rfl) g1
 obtain ⟨b, rfl, _⟩ := zbi (k := .i64) (by kernel_rfl) g2
 exact ⟨⟨a, b⟩, zit (by kernel_rfl), trivial⟩
theorem yaej {n : Nat} {c : List AV} (h : ShC Tryz.prog n 77 c) : ∃ r : MOpd, zay Tryz.prog 77 c = zaq r ∧ True := by
 obtain ⟨k, hk, h⟩ := zff (ts := [9, 5, 3, 3, 75, 3]) (by kernel_rfl) h
 obtain ⟨_, _, rfl, g1, _, _, rfl, g2, _, _, rfl, g3, _, _, rfl, g4, _, _, rfl, g5, _, _, rfl, g6, rfl⟩ := h
 obtain ⟨nm, rfl, w⟩ := znz (by kernel_rfl) g1
 obtain ⟨kd, rfl, _⟩ := zbi (k := .u8) (by kernel_rfl) g2
 obtain ⟨a, rfl, _⟩ := zbi (k := .i64) (by kernel_rfl) g3
 obtain ⟨b, rfl, _⟩ := zbi (k := .i64) (by kernel_rfl) g4
 obtain ⟨p, l, rfl, _, _⟩ := zhi (e := 181) (z := 2) (f := ze4) (q := fun _ => True) (by kernel_rfl) (by kernel_rfl) (fun j c hj hc => yaae hc) g5
 obtain ⟨d, rfl, _⟩ := zbi (k := .i64) (by kernel_rfl) g6
 exact ⟨⟨nm, kd, a, b, p, l, d⟩, zit (by kernel_rfl), trivial⟩
theorem yaiu {n : Nat} {c : List AV} (h : ShC Tryz.prog n 83 c) : ∃ r : MEff, zay Tryz.prog 83 c = zr9 r ∧ (RawT r.addr ∧ RawT r.value ∧ RawT r.cond) ∧ (NumT r.addr ∧ NumT r.value ∧ NumT r.cond) := by
 obtain ⟨k, hk, h⟩ := zff (ts := [5, 3, 3, 81, 81, 81]) (by kernel_rfl) h
 obtain ⟨_, _, rfl, g1, _, _, rfl, g2, _, _, rfl, g3, _, _, rfl, g4, _, _, rfl, g5, _, _, rfl, g6, rfl⟩ := h
 obtain ⟨kd, rfl, _⟩ := zbi (k := .u8) (by kernel_rfl) g1
 obtain ⟨a, rfl, _⟩ := zbi (k := .i64) (by kernel_rfl) g2
 obtain ⟨b, rfl, _⟩ := zbi (k := .i64) (by kernel_rfl) g3
 obtain ⟨t1, rfl, q1⟩ := zn0 _ _ g4
 obtain ⟨t2, rfl, q2⟩ := zn0 _ _ g5
 obtain ⟨t3, rfl, q3⟩ := zn0 _ _ g6
 exact ⟨⟨kd, a, b, t1, t2, t3⟩, by rw [zit (by kernel_rfl)]; simp [zr9, effC], ⟨q1.1, q2.1, q3.1⟩, q1.2, q2.2, q3.2⟩
structure InsOk (s : MInstr) : Prop where
 o : s.operands.length < 2 ^ 62
 e : s.effects.length < 2 ^ 62
 t : ∀ x ∈ s.effects, RawT x.addr ∧ RawT x.value ∧ RawT x.cond
 n : ∀ x ∈ s.effects, NumT x.addr ∧ NumT x.value ∧ NumT x.cond
 s : 0 ≤ s.mask ∧ s.mask < 2 ^ 64 ∧ 0 ≤ s.mat ∧ s.mat < 2 ^ 64
theorem yaad {n : Nat} {c : List AV} (h : ShC Tryz.prog n 69 c) : ∃ r : MInstr, zay Tryz.prog 69 c = zad r ∧ InsOk r := by
 obtain ⟨k, hk, h⟩ := zff (ts := [9, 65, 65, 66, 67, 3, 3, 3, 3]) (by kernel_rfl) h
 obtain ⟨_, _, rfl, g1, _, _, rfl, g2, _, _, rfl, g3, _, _, rfl, g4, _, _, rfl, g5, _, _, rfl, g6, _, _, rfl, g7, _, _, rfl, g8, _, _, rfl, g9, rfl⟩ := h
 obtain ⟨nm, rfl, w⟩ := znz (by kernel_rfl) g1
 obtain ⟨mk, rfl, w1⟩ := zbi (k := .u64) (by kernel_rfl) g2
 obtain ⟨mt, rfl, w2⟩ := zbi (k := .u64) (by kernel_rfl) g3
 obtain ⟨p, l, rfl, hl, _⟩ := zhi (e := 77) (z := 6) (f := zaq) (q := fun _ => True) (by kernel_rfl) (by kernel_rfl) (fun j c hj hc => yaej hc) g4
 obtain ⟨p2, l2, rfl, hl2, hq⟩ := zhi (e := 83) (z := 21) (f := zr9) (q := fun r => (RawT r.addr ∧ RawT r.value ∧ RawT r.cond) ∧ (NumT r.addr ∧ NumT r.value ∧ NumT r.cond)) (by kernel_rfl) (by kernel_rfl) (fun j c hj hc => yaiu hc) g5
 obtain ⟨a, rfl, _⟩ := zbi (k := .i64) (by kernel_rfl) g6
 obtain ⟨b, rfl, _⟩ := zbi (k := .i64) (by kernel_rfl) g7
 obtain ⟨d, rfl, _⟩ := zbi (k := .i64) (by kernel_rfl) g8
 obtain ⟨f, rfl, _⟩ := zbi (k := .i64) (by kernel_rfl) g9
 have a1 := zzd w1
 have a2 := zzd w2
 exact ⟨⟨nm, mk, mt, p, l, p2, l2, a, b, d, f⟩, zit (by kernel_rfl), hl, hl2, fun x hx => (hq x hx).1, fun x hx => (hq x hx).2, a1.1, a1.2, a2.1, a2.2⟩
theorem yaei {n : Nat} {c : List AV} (h : ShC Tryz.prog n 27 c) : ∃ m : MMach, zay Tryz.prog 27 c = zag m ∧ RawM m ∧ NumM m := by
 obtain ⟨k, hk, h⟩ := zff (ts := [9, 3, 3, 22, 23, 24, 25]) (by kernel_rfl) h
 obtain ⟨_, _, rfl, g1, _, _, rfl, g2, _, _, rfl, g3, _, _, rfl, g4, _, _, rfl, g5, _, _, rfl, g6, _, _, rfl, g7, rfl⟩ := h
 obtain ⟨nm, rfl, w⟩ := znz (by kernel_rfl) g1
 obtain ⟨a, rfl, _⟩ := zbi (k := .i64) (by kernel_rfl) g2
 obtain ⟨b, rfl, _⟩ := zbi (k := .i64) (by kernel_rfl) g3
 obtain ⟨p1, l1, rfl, h1, q1⟩ := zhi (e := 153) (z := 4) (f := zgp) (q := fun r => r.name.size < 2 ^ 62) (by kernel_rfl) (by kernel_rfl) (fun j c hj hc => yaiw hc) g4
 obtain ⟨p2, l2, rfl, h2, _⟩ := zhi (e := 74) (z := 2) (f := zbv) (q := fun _ => True) (by kernel_rfl) (by kernel_rfl) (fun j c hj hc => yaeh hc) g5
 obtain ⟨p3, l3, rfl, h3, q3⟩ := zhi (e := 71) (z := 2) (f := unV) (q := fun r => r.name.size < 2 ^ 62) (by kernel_rfl) (by kernel_rfl) (fun j c hj hc => yapk hc) g6
 obtain ⟨p4, l4, rfl, h4, q4⟩ := zhi (e := 69) (z := 9) (f := zad) (q := InsOk) (by kernel_rfl) (by kernel_rfl) (fun j c hj hc => yaad hc) g7
 exact ⟨⟨nm, a, b, p1, l1, p2, l2, p3, l3, p4, l4⟩, zit (by kernel_rfl), ⟨h1, h2, h3, h4, w, fun s hs => (q4 s hs).o, fun s hs => (q4 s hs).e, fun s hs => (q4 s hs).t⟩, ⟨q1, q3, fun s hs => (q4 s hs).s, fun s hs => (q4 s hs).n⟩⟩
end Go.Proofs.YtibehelnfbcnjaaGreatDoor.v
namespace Go.Proofs.YtibehelnfbcnjaaGreatDoor.v
open Go Go.Ab
set_option maxRecDepth 100000
set_option linter.unusedSimpArgs false
set_option linter.unusedVariables false
def yacr (P : Program) (t : TypeId) : Option (List (TypeId × Nat)) := match P.underlying t with | some (.struct fs) => some (fs.toList.map fun f => (f.type, f.offset)) | _ => none
def arrT (P : Program) (t : TypeId) : Option (Nat × TypeId) := match P.underlying t with | some (.array n e) => some (n, e) | _ => none
theorem yap6 (P : Program) (t : TypeId) : P.underlying t = some .string ↔ strT P t = true := by
 unfold strT
 cases h : P.underlying t with
 | none => simp
 | some u => cases u <;> simp
section
variable {H : Type} {enc : TypeId × Value → H} {P : Program} {w : World} {base : Nat} {sp : Nat → Bool} {held : Bool} {fuel : Nat}
theorem yagx {t : TypeId} {cs : List Value} {b : List UInt8} {q : List MemPlace} (hu : strT P t = true) (h : DataW.trod enc P w base sp held fuel t cs = some (.lit (.string b), q)) : cs = [.string ⟨b.toArray⟩] := by
 obtain ⟨s, rfl, e, _⟩ := DataW.trod_string ((yap6 P t).2 hu) h
 simp only [Prod.mk.injEq, DataW.lit.injEq, Lit.string.injEq] at e
 rw [e.1]
theorem zxl {t : TypeId} {k : IntKind} {cs : List Value} {i : Int} {q : List MemPlace} (hu : intT P t = some k) (h : DataW.trod enc P w base sp held fuel t cs = some (.lit (.int k i), q)) : cs = [.int k i] := by
 unfold intT at hu
 split at hu
 ·rename_i k' hk
  injection hu with hu
  subst hu
  obtain ⟨j, rfl, e, _⟩ := DataW.trod_int hk h
  simp only [Prod.mk.injEq, DataW.lit.injEq, Lit.int.injEq] at e
  rw [e.1.2]
 ·cases hu
theorem zvg {t a b c : TypeId} {cs : List Value} {s : List UInt8} {x y : Int} {q : List MemPlace} (hu : yacr P t = some [(a, 0), (b, 1), (c, 2)]) (ha : strT P a = true) (hb : intT P b = some .i64) (hc : intT P c = some .i64) (z : P.cellsOf t = 3) (za : P.cellsOf a = 1) (zb : P.cellsOf b = 1) (zc : P.cellsOf c = 1)
  (h : DataW.trod enc P w base sp held fuel t cs = some (.agg [.lit (.string s), .lit (.int .i64 x), .lit (.int .i64 y)], q)) : cs = [.string ⟨s.toArray⟩, .int .i64 x, .int .i64 y] := by
 unfold yacr at hu
 split at hu
 ·rename_i fs hf
  injection hu with hu
  obtain ⟨xs, n, _, e, hl, hx, hi⟩ := DataW.trod_struct hf h
  simp only [Prod.mk.injEq, DataW.agg.injEq] at e
  obtain ⟨f1, f2, f3, e2⟩ : ∃ f1 f2 f3, fs.toList = [f1, f2, f3] := by
   have hl3 := congrArg List.length hu
   rw [List.length_map] at hl3
   match h : fs.toList, hl3 with
   | [f1, f2, f3], _ => exact ⟨f1, f2, f3, rfl⟩
  rw [e2] at hu
  simp only [List.map_cons, List.map_nil, List.cons.injEq, Prod.mk.injEq, and_true] at hu
  obtain ⟨⟨u1, u2⟩, ⟨u3, u4⟩, u5, u6⟩ := hu
  have g1 : fs[0]? = some f1 := by rw [← Array.getElem?_toList, e2]; rfl
  have g2 : fs[1]? = some f2 := by rw [← Array.getElem?_toList, e2]; rfl
  have g3 : fs[2]? = some f3 := by rw [← Array.getElem?_toList, e2]; rfl
  have t1 := hi 0 f1 g1
  have t2 := hi 1 f2 g2
  have t3 := hi 2 f3 g3
  rw [u1, u2, za] at t1
  rw [u3, u4, zb] at t2
  rw [u5, u6, zc] at t3
  obtain ⟨p1, p2, p3, rfl⟩ : ∃ p1 p2 p3, xs = [p1, p2, p3] := by
   have : (xs.map (·.1)).length = 3 := by rw [← e.1]; rfl
   rw [List.length_map] at this
   match xs, this with
   | [p1, p2, p3], _ => exact ⟨p1, p2, p3, rfl⟩
  simp only [List.map_cons, List.map_nil, List.cons.injEq, and_true] at e
  obtain ⟨⟨e3, e4, e5⟩, _⟩ := e
  have k1 := yagx ha (t1.trans (show _ = some ((DataW.lit (.string s) : DataW H), p1.2) by rw [e3]; rfl))
  have k2 := zxl hb (t2.trans (show _ = some ((DataW.lit (.int .i64 x) : DataW H), p2.2) by rw [e4]; rfl))
  have k3 := zxl hc (t3.trans (show _ = some ((DataW.lit (.int .i64 y) : DataW H), p3.2) by rw [e5]; rfl))
  rw [z] at hl
  match cs, hl with
  | [c1, c2, c3], _ =>
   simp at k1 k2 k3
   rw [k1, k2, k3]
 ·cases hu
end
def rowD {H : Type} (r : List UInt8 × Int × Int) : DataW H := DataW.agg [DataW.lit (.string r.1), DataW.lit (.int .i64 r.2.1), DataW.lit (.int .i64 r.2.2)]
def rowV (r : List UInt8 × Int × Int) : List Value := [.string ⟨r.1.toArray⟩, .int .i64 r.2.1, .int .i64 r.2.2]
def rowA (r : List UInt8 × Int × Int) : List AV := [.str ⟨r.1.toArray⟩, .int .i64 r.2.1, .int .i64 r.2.2]
def rowsL : List (List UInt8 × Int × Int) := [([], 0, 0), ([], 0, 0), ([], 0, 0), ([110, 111, 116], 1, 1), ([110, 101, 103], 1, 1), ([97, 100, 100], 2, 1), ([115, 117, 98], 2, 1), ([109, 117, 108], 2, 1), ([97, 110, 100], 2, 1), ([111, 114], 2, 1), ([120, 111, 114], 2, 1), ([115, 104, 108], 2, 1), ([115, 104, 114], 2, 1), ([115, 97, 114], 2, 1), ([117, 100, 105, 118], 2, 1), ([117, 114, 101, 109], 2, 1), ([101, 113], 2, 2), ([117, 108, 116], 2, 2), ([115, 108, 116], 2, 2), ([105, 116, 101], 3, 3), ([99, 111, 110, 99, 97, 116], 2, 4), ([101, 120, 116, 114, 97, 99, 116], 1, 5), ([122, 101, 120, 116], 1, 6), ([115, 101, 120, 116], 1, 6), ([108, 111, 97, 100], 1, 7)]
theorem yae9 : (Rows.laid_retarget_term_shapes : DataW Unit) = .agg (rowsL.map rowD) := rfl
theorem zp4 : shapesC = rowsL.flatMap rowA := rfl
theorem chop {α : Type} {n : Nat} : ∀ (l : List (List α)) (cs : List α), (∀ x ∈ l, x.length = n) → cs.length = l.length * n → (∀ i x, l[i]? = some x → (cs.drop (i * n)).take n = x) → cs = l.flatten
 | [], cs, _, hl, _ => by
  simp at hl; subst hl; rfl
 | x :: l, cs, hn, hl, h => by
  have h0 := h 0 x rfl
  simp only [Nat.zero_mul, List.drop_zero] at h0
  rw [List.flatten_cons, ← List.take_append_drop n cs, h0]
  congr 1
  refine chop l (cs.drop n) (fun y hy => hn y (by simp [hy])) ?_ (fun i y hy => ?_)
  ·rw [List.length_drop, hl, List.length_cons, Nat.succ_mul]; omega
  ·have := h (i + 1) y hy
   rw [List.drop_drop]
   rwa [Nat.succ_mul, Nat.add_comm] at this
theorem yagy {W : World} (h : laidMet Tryz.prog [("retarget/term.shapes", Rows.laid_retarget_term_shapes)] W) : ∃ cs : Array Value, W.var? Tryz.prog "retarget/term.shapes" = some cs ∧ cs.toList = (rowsL.map rowV).flatten := by
 obtain ⟨ps, ⟨g, t, cs, fuel, p, q, hg, ht, hvar, hd, _, _⟩, _⟩ := h
 refine ⟨cs, hvar, ?_⟩
 obtain rfl : g = 0 := Option.some.inj (hg.symm.trans (show Tryz.prog.globalNamed "retarget/term.shapes" = some 0 by kernel_rfl))
 obtain rfl : t = 244 := Option.some.inj (ht.symm.trans (by kernel_rfl))
 rw [yae9] at hd
 have ha : arrT Tryz.prog 244 = some (25, 236) := by kernel_rfl
 unfold arrT at ha
 split at ha
 ·rename_i n e hu
  injection ha with ha
  injection ha with ha1 ha2
  subst ha1 ha2
  obtain ⟨xs, m, _, e, hl, hx, hi⟩ := DataW.trod_array hu hd
  simp only [Prod.mk.injEq, DataW.agg.injEq] at e
  have z : Tryz.prog.cellsOf 244 = 75 := by kernel_rfl
  have z3 : Tryz.prog.cellsOf 236 = 3 := by kernel_rfl
  rw [z] at hl
  rw [z3] at hi
  refine chop (n := 3) _ _ (fun x hx => ?_) (by rw [hl]; rfl) (fun i x hx => ?_)
  ·obtain ⟨r, _, rfl⟩ := List.mem_map.1 hx; rfl
  ·rw [List.getElem?_map] at hx
   cases hr : rowsL[i]? with
   | none => rw [hr] at hx; cases hx
   | some r =>
    rw [hr] at hx
    injection hx with hx
    subst hx
    have hlt : i < 25 := by
     have := (List.getElem?_eq_some_iff.1 hr).1
     exact this
    have hq := hi i hlt
    have hm : (xs.map (·.1))[i]? = some (rowD r) := by rw [← e.1, List.getElem?_map, hr]; rfl
    rw [List.getElem?_map] at hm
    cases hy : xs[i]? with
    | none => rw [hy] at hm; cases hm
    | some y =>
     rw [hy] at hm hq
     injection hm with hm
     exact zvg (a := 9) (b := 3) (c := 3) (by kernel_rfl) (by kernel_rfl) (by kernel_rfl) (by kernel_rfl) (by kernel_rfl) (by kernel_rfl) (by kernel_rfl) (by kernel_rfl) (hq.trans (show _ = some (rowD r, y.2) by rw [← hm]))
 ·cases ha
theorem yae8 (ι : Inj) : AV.concL ι shapesC = (rowsL.map rowV).flatten := by rw [zp4]; rfl
theorem yaoi {W : World} (h : laidMet Tryz.prog [("retarget/term.shapes", Rows.laid_retarget_term_shapes)] W) : zlg W W.heap.size := by
 obtain ⟨cs, hv, hc⟩ := yagy h
 have hg : Tryz.prog.globalNamed "retarget/term.shapes" = some 0 := by kernel_rfl
 intro g v hgv
 rw [yac1] at hgv
 unfold glob at hgv
 split at hgv
 ·rename_i e
  injection hgv with hgv
  subst e hgv
  refine ⟨?_, fun ι => rfl⟩
  have cell : ∀ j, W.cell? ⟨0, j, none⟩ = cs[j]? := fun j => World.var?_cell hg hv j
  simp only [AV.OK]
  refine ⟨?_, fun ι j c hj => ?_, ?_⟩
  ·refine zxm (v := .string ⟨#[]⟩) (a := ⟨0, 0, none⟩) ?_
   rw [cell, ← Array.getElem?_toList, hc]; rfl
  ·have e : (Addr.add ⟨0, 0, none⟩ j) = ⟨0, j, none⟩ := by
    simp [Addr.add]
    exact fun h => h.symm
   rw [e, cell, ← Array.getElem?_toList, hc, ← yae8 ι]
   exact zqr ι _ j c hj
  ·rw [zar]
   intro v hv
   rw [zp4] at hv
   obtain ⟨r, _, hr⟩ := List.mem_flatMap.1 hv
   simp only [rowA, List.mem_cons, List.not_mem_nil, or_false] at hr
   rcases hr with rfl | rfl | rfl <;> simp [AV.OK]
 ·cases hgv
end Go.Proofs.YtibehelnfbcnjaaGreatDoor.v
namespace Go.Proofs.YtibehelnfbcnjaaGreatDoor.v
open Go Go.Ab Go.RowKit
set_option linter.unusedVariables false
set_option maxRecDepth 100000
def yat8 (P : Program) : Bool := P.funcs.toList.all fun f => !(f.name == "runtime.NumGoroutine")
theorem yaik {P : Program} (h : yat8 P = true) : ∀ (f : Nat) (fn : Func), P.funcs[f]? = some fn → (fn.name == "runtime.NumGoroutine") = false := by
 intro f fn hf
 have := List.all_eq_true.1 h fn (List.mem_of_getElem? (by simpa using hf))
 simpa using this
theorem names : Names Tryz.prog := ⟨yaik (by kernel_rfl)⟩
theorem yay7 : Tryz.prog.follows .mixedOrders = true := by kernel_rfl
theorem own : ownKnob Tryz.prog.godebug = none := by kernel_rfl
theorem yaaz : Tryz.prog.underlying 4 = some .bool := by kernel_rfl
def i0 : Inj := fun _ => (0, 0)
theorem yaqh {f : FuncId} {args : List AV} {vs : Array Value} {H : Heap} (h : zas Tryz.prog (om Tryz.prog) f args ⟨0, []⟩ = some (.bool true, H)) (W : World) (gl : zlg W W.heap.size) (hargs : ∀ a ∈ args, a.OK W W.heap.size 0)
  (hv : (args.map (AV.conc i0)).toArray = vs) : Calls Tryz.prog f vs W fun e w' => e = .returned (.bool true) ∧ Below W.heap.size W w' := by
 subst hv
 exact (yafc names yay7 h W gl hargs i0).mono fun e w' ⟨⟨ι, he⟩, hb⟩ => ⟨he, hb⟩
def yaws : List TypeId := [27, 9, 3, 22, 23, 24, 25, 153, 74, 71, 69, 31, 65, 66, 67, 77, 83, 5, 75, 181, 81, 79, 118, 184, 64, 47]
theorem zmt : yaeu Tryz.prog yaws = true := by kernel_rfl
theorem yauo {k : Nat} {c : List AV} (h : ShC Tryz.prog k 3 c) : ∃ i, zay Tryz.prog 3 c = .int .i64 i := by
 obtain ⟨i, rfl, _⟩ := zbi (k := .i64) (by kernel_rfl) h
 exact ⟨i, zp2 (by kernel_rfl)⟩
theorem yauq {k : Nat} {c : List AV} (h : ShC Tryz.prog k 65 c) : ∃ i, zay Tryz.prog 65 c = .int .u64 i ∧ 0 ≤ i ∧ i < 18446744073709551616 := by
 obtain ⟨i, rfl, w⟩ := zbi (k := .u64) (by kernel_rfl) h
 exact ⟨i, zp2 (by kernel_rfl), zzd w⟩
def cells75 : Array Value := ((rowsL.map rowV).flatten).toArray
noncomputable def zjz (os : Os) : World :=
 {World.holding Tryz.prog os ⟨#[], #[], []⟩ with heap := (World.holding Tryz.prog os ⟨#[], #[], []⟩).heap.modify 0 fun
   | .cells _ t frozen => .cells cells75 t frozen
   | o => o }
theorem zj0 (os : Os) (l : Array Value) : ((zjz os).forCall (fun _ _ => 0) ⟨#[], l, []⟩).memory.heap[0]? = some (.cells cells75 244 (0, 0)) := by kernel_rfl
theorem yah0 (os : Os) (l : Array Value) : laidMet Tryz.prog [("retarget/term.shapes", Rows.laid_retarget_term_shapes)] ((zjz os).forCall (fun _ _ => 0) ⟨#[], l, []⟩).memory := by
 refine ⟨_, ⟨0, 244, cells75, 8, [], [], by kernel_rfl, by kernel_rfl, by kernel_rfl, by kernel_rfl, rfl, rfl⟩, by decide +kernel, fun b off h => ?_⟩
 have h' : MemPlace.cell b off ∈ (List.range 75).map fun k => MemPlace.cell 0 k := h
 obtain ⟨k, hk, e⟩ := List.mem_map.1 h'
 injection e with e1 e2
 subst e1 e2
 refine ⟨⟨_, _, zj0 os l⟩, fun u v hc => ?_⟩
 simp only [World.cell?, zj0 os l] at hc
 have hm : Value.iface u v ∈ cells75.toList := by
  have hc' : cells75[k]? = some (Value.iface u v) := by simpa using hc
  exact List.mem_of_getElem? (by rw [Array.getElem?_toList]; exact hc')
 have ha : (cells75.toList.all fun x => match x with | .iface _ _ => false | _ => true) = true := by kernel_rfl
 have := List.all_eq_true.1 ha _ hm
 cases this
open Go Go.Ab
set_option linter.unusedSimpArgs false
theorem zt3 {n : Nat} {c : List AV} (h : ShC Tryz.prog n 31 c) : ∃ (p : Pl) (l : List Int), c = [.rsl (slA p l) p.cap 1 (l.map zat)] ∧ l.length < 2 ^ 62 := by
 obtain ⟨p, l, h1, h2, _⟩ := zhi (e := 3) (z := 1) (f := zat) (q := fun _ => True) (by kernel_rfl) (by kernel_rfl) (fun j c hj hc => by
  obtain ⟨i, rfl, _⟩ := zbi (k := .i64) (by kernel_rfl) hc
  exact ⟨i, zp2 (by kernel_rfl), trivial⟩) h
 exact ⟨p, l, h1, h2⟩
theorem zt4 {n : Nat} {c : List AV} (h : ShC Tryz.prog n 31 c) : ∃ (p : Pl) (l : List Int), zay Tryz.prog 31 c = .rsl (slA p l) p.cap 1 (l.map zat) ∧ l.length < 2 ^ 62 := by
 obtain ⟨p, l, rfl, h2⟩ := zt3 h
 exact ⟨p, l, zp2 (by kernel_rfl), h2⟩
theorem yaiv {n : Nat} {c : List AV} (h : ShC Tryz.prog n 47 c) : ∃ (p : Pl) (l : List MOp), zay Tryz.prog 47 c = .rsl (slA p l) p.cap 2 (l.map opV) ∧ l.length < 2 ^ 62 := by
 obtain ⟨p, l, rfl, h2, _⟩ := zhi (e := 64) (z := 2) (f := opV) (q := fun _ => True) (by kernel_rfl) (by kernel_rfl) (fun j c hj hc => by
  obtain ⟨k, hk, h⟩ := zff (ts := [3, 31]) (by kernel_rfl) hc
  obtain ⟨_, _, rfl, g1, _, _, rfl, g2, rfl⟩ := h
  obtain ⟨a, rfl, _⟩ := zbi (k := .i64) (by kernel_rfl) g1
  obtain ⟨p, l, rfl, _⟩ := zt3 g2
  exact ⟨⟨a, p, l⟩, zit (by kernel_rfl), trivial⟩) h
 exact ⟨p, l, zp2 (by kernel_rfl), h2⟩
end Go.Proofs.YtibehelnfbcnjaaGreatDoor.v
