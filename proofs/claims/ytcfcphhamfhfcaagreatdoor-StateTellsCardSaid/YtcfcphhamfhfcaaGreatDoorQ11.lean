/- What the law's proof leans on, part 51. Conditions: in each statement. -/
import Derived.Test.YtcfcphhamfhfcaaGreatDoorQ9
import Derived.Test.YtcfcphhamfhfcaaGreatDoorQX2
import Derived.Test.YtcfcphhamfhfcaaGreatDoorRows
import Derived.FnData
import Derived.WalkKit
import Derived.ProofKit
import Derived.OpenShut
import Derived.ShutString
import Derived.ChangeOld
import Derived.Below
import Derived.SizedLaws
import Derived.Handed
set_option linter.all false
namespace Go.Proofs.YtcfcphhamfhfcaaGreatDoor.v
open Go Go.Ab
set_option maxRecDepth 100000
set_option linter.unusedSimpArgs false
set_option linter.unusedVariables false
def yaft (P : Program) (t : TypeId) : Option (List TypeId) := match P.underlying t with | some (.struct fs) => some (fs.toList.map (·.type)) | _ => none
def intT (P : Program) (t : TypeId) : Option IntKind := match P.underlying t with | some (.int k) => some k | _ => none
def zoe (P : Program) (t : TypeId) : Option TypeId := match P.underlying t with | some (.slice e) => some e | _ => none
def strT (P : Program) (t : TypeId) : Bool := match P.underlying t with | some .string => true | _ => false
theorem zfv {P : Program} {n : Nat} {t : TypeId} {ts : List TypeId} {c : List AV} (hu : yaft P t = some ts) (h : ShC P n t c) : ∃ k, k < n ∧ ShF (ShC P k) ts c := by
 cases n with
 | zero => exact h.elim
 | succ n =>
  rw [zjq] at h
  unfold yaft at hu
  split at hu
  ·rename_i fs e
   rw [e] at h
   injection hu with hu
   subst hu
   exact ⟨n, by omega, h⟩
  ·cases hu
theorem zbz {P : Program} {n : Nat} {t : TypeId} {k : IntKind} {c : List AV} (hu : intT P t = some k) (h : ShC P n t c) : ∃ i, c = [.int k i] ∧ (Lit.int k i).wf = true := by
 cases n with
 | zero => exact h.elim
 | succ n =>
  rw [zjq] at h
  unfold intT at hu
  split at hu
  ·rename_i k' e
   rw [e] at h
   injection hu with hu
   subst hu
   exact h
  ·cases hu
theorem zj4 : reachBytes < 1000000000000000 := by decide
theorem zqo {P : Program} {n : Nat} {t : TypeId} {c : List AV} (hu : strT P t = true) (h : ShC P n t c) : ∃ s : ByteArray, c = [.str s] ∧ s.size < 2 ^ 62 := by
 cases n with
 | zero => exact h.elim
 | succ n =>
  rw [zjq] at h
  unfold strT at hu
  split at hu
  ·rename_i e
   rw [e] at h
   obtain ⟨s, h1, h2⟩ := h
   have := zj4
   exact ⟨s, h1, by omega⟩
  ·cases hu
theorem yahc {P : Program} {n : Nat} {t e : TypeId} {z : Nat} {c : List AV} {α : Type} {f : α → AV} {q : α → Prop} (hu : zoe P t = some e) (hz : P.cellsOf e = z) (he : ∀ k c, k < n → ShC P k e c → ∃ x, za4 P e c = f x ∧ q x) (h : ShC P n t c) :
  ∃ a cap l, c = [.rsl a cap z (l.map f)] ∧ (l ≠ [] → a.isSome = true) ∧ l.length < 2 ^ 62 ∧ ∀ x ∈ l, q x := by
 cases n with
 | zero => exact h.elim
 | succ n =>
  rw [zjq] at h
  unfold zoe at hu
  split at hu
  ·rename_i e' hh
   rw [hh] at h
   injection hu with hu
   subst hu
   obtain ⟨a, cap, l, h1, h2, h3, h4⟩ := h
   obtain ⟨ys, h5, h6⟩ := zpr (f := f) (p := q) l (fun x hx => by
    obtain ⟨c, rfl, hc⟩ := h4 x hx
    exact he n c (by omega) hc)
   subst h5
   rw [hz] at h1
   have := zj4
   simp only [List.length_map] at h2
   exact ⟨a, cap, ys, h1, fun hn => h3 (by simpa using hn), by omega, h6⟩
  ·cases hu
theorem ya5t {α : Type} {a : Option Addr} {cap : Nat} {l : List α} (h : l ≠ [] → a.isSome = true) : ∃ p : Pl, a = slA p l ∧ p.cap = cap := by
 cases a with
 | some a => exact ⟨⟨a, false, cap⟩, by simp [slA], rfl⟩
 | none =>
  have : l = [] := Classical.byContradiction fun hn => by have := h hn; cases this
  subst this
  exact ⟨⟨⟨0, 0, none⟩, true, cap⟩, by simp [slA], rfl⟩
theorem zml {P : Program} {n : Nat} {t e : TypeId} {z : Nat} {c : List AV} {α : Type} {f : α → AV} {q : α → Prop} (hu : zoe P t = some e) (hz : P.cellsOf e = z) (he : ∀ k c, k < n → ShC P k e c → ∃ x, za4 P e c = f x ∧ q x) (h : ShC P n t c) :
  ∃ (p : Pl) (l : List α), c = [.rsl (slA p l) p.cap z (l.map f)] ∧ l.length < 2 ^ 62 ∧ ∀ x ∈ l, q x := by
 obtain ⟨a, cap, l, h1, h2, h3, h4⟩ := yahc hu hz he h
 obtain ⟨p, rfl, rfl⟩ := ya5t (cap := cap) h2
 exact ⟨p, l, h1, h3, h4⟩
theorem zje {P : Program} {t : TypeId} {c : List AV} (h : zi6 P t = true) : za4 P t c = .agg c := by unfold za4; rw [h]; rfl
theorem yaa3 {P : Program} {t : TypeId} {x : AV} (h : zi6 P t = false) : za4 P t [x] = x := by unfold za4; rw [h]; rfl
theorem zxg {i : Int} (h : (Lit.int .u64 i).wf = true) : 0 ≤ i ∧ i < 18446744073709551616 := by
 simp only [Lit.wf, Bool.and_eq_true, decide_eq_true_eq] at h
 have h1 : IntKind.u64.min = 0 := by decide
 have h2 : IntKind.u64.max = 18446744073709551615 := by decide
 omega
theorem ya2d {i : Int} (h : (Lit.int .u8 i).wf = true) : 0 ≤ i ∧ i < 256 := by
 simp only [Lit.wf, Bool.and_eq_true, decide_eq_true_eq] at h
 have h1 : IntKind.u8.min = 0 := by decide
 have h2 : IntKind.u8.max = 255 := by decide
 omega
theorem zqp : ∀ n c, ShC Tryz.prog n 120 c → ∃ t : MTerm, c = t.cs ∧ RawT t ∧ NumT t := by
 intro n
 induction n using Nat.strongRecOn with
 | _ n ih =>
 intro c h
 obtain ⟨k, hk, h⟩ := zfv (ts := [5, 3, 30, 9, 3, 118]) (by kernel_rfl) h
 obtain ⟨_, _, rfl, g1, _, _, rfl, g2, _, _, rfl, g3, _, _, rfl, g4, _, _, rfl, g5, _, _, rfl, g6, rfl⟩ := h
 obtain ⟨kd, rfl, w1⟩ := zbz (k := .u8) (by kernel_rfl) g1
 obtain ⟨wd, rfl, _⟩ := zbz (k := .i64) (by kernel_rfl) g2
 obtain ⟨bt, rfl, w3⟩ := zbz (k := .u64) (by kernel_rfl) g3
 obtain ⟨nm, rfl, w4⟩ := zqo (by kernel_rfl) g4
 obtain ⟨lo, rfl, _⟩ := zbz (k := .i64) (by kernel_rfl) g5
 obtain ⟨p, l, rfl, hl, hq⟩ := zml (e := 120) (z := 6) (f := zag) (q := fun t => RawT t ∧ NumT t) (by kernel_rfl) (by kernel_rfl) (fun j c hj hc => by
  obtain ⟨t, rfl, q⟩ := ih j (by omega) c hc
  exact ⟨t, zje (by kernel_rfl), q⟩) g6
 have a1 := ya2d w1
 have a3 := zxg w3
 have key : ∀ x ∈ (MTerm.mk kd wd bt nm lo p l).nodes, x = .mk kd wd bt nm lo p l ∨ ∃ y ∈ l, x ∈ y.nodes := fun x hx => by
  rw [zht, List.mem_cons] at hx
  rcases hx with hx | hx
  ·exact .inl hx
  ·obtain ⟨y, hy, hx⟩ := List.mem_flatMap.1 hx
   exact .inr ⟨y, hy, hx⟩
 refine ⟨.mk kd wd bt nm lo p l, ?_, ⟨?_, ?_⟩, ⟨?_, ?_⟩⟩
 ·rw [MTerm.cs, zpu]; rfl
 ·intro x hx
  rcases key x hx with rfl | ⟨y, hy, hx⟩
  ·exact hl
  ·exact (hq y hy).1.l x hx
 ·intro x hx
  rcases key x hx with rfl | ⟨y, hy, hx⟩
  ·exact w4
  ·exact (hq y hy).1.n x hx
 ·intro x hx
  rcases key x hx with rfl | ⟨y, hy, hx⟩
  ·exact a1.1
  ·exact (hq y hy).2.k x hx
 ·intro x hx
  rcases key x hx with rfl | ⟨y, hy, hx⟩
  ·exact a3.2
  ·exact (hq y hy).2.b x hx
theorem yamg {n : Nat} {c : List AV} (h : ShC Tryz.prog n 137 c) : ∃ r : MReg, za4 Tryz.prog 137 c = zei r ∧ r.name.size < 2 ^ 62 := by
 obtain ⟨k, hk, h⟩ := zfv (ts := [9, 3, 3, 3]) (by kernel_rfl) h
 obtain ⟨_, _, rfl, g1, _, _, rfl, g2, _, _, rfl, g3, _, _, rfl, g4, rfl⟩ := h
 obtain ⟨nm, rfl, w⟩ := zqo (by kernel_rfl) g1
 obtain ⟨a, rfl, _⟩ := zbz (k := .i64) (by kernel_rfl) g2
 obtain ⟨b, rfl, _⟩ := zbz (k := .i64) (by kernel_rfl) g3
 obtain ⟨d, rfl, _⟩ := zbz (k := .i64) (by kernel_rfl) g4
 exact ⟨⟨nm, a, b, d⟩, zje (by kernel_rfl), w⟩
theorem yauf {n : Nat} {c : List AV} (h : ShC Tryz.prog n 154 c) : ∃ r : MUn, za4 Tryz.prog 154 c = unV r ∧ r.name.size < 2 ^ 62 := by
 obtain ⟨k, hk, h⟩ := zfv (ts := [9, 3]) (by kernel_rfl) h
 obtain ⟨_, _, rfl, g1, _, _, rfl, g2, rfl⟩ := h
 obtain ⟨nm, rfl, w⟩ := zqo (by kernel_rfl) g1
 obtain ⟨a, rfl, _⟩ := zbz (k := .i64) (by kernel_rfl) g2
 exact ⟨⟨nm, a⟩, zje (by kernel_rfl), w⟩
theorem yahb {n : Nat} {c : List AV} (h : ShC Tryz.prog n 109 c) : ∃ r : MBank, za4 Tryz.prog 109 c = zem r ∧ True := by
 obtain ⟨k, hk, h⟩ := zfv (ts := [9, 80]) (by kernel_rfl) h
 obtain ⟨_, _, rfl, g1, _, _, rfl, g2, rfl⟩ := h
 obtain ⟨nm, rfl, w⟩ := zqo (by kernel_rfl) g1
 obtain ⟨p, l, rfl, _, _⟩ := zml (e := 3) (z := 1) (f := zdt) (q := fun _ => True) (by kernel_rfl) (by kernel_rfl) (fun j c hj hc => by
  obtain ⟨i, rfl, _⟩ := zbz (k := .i64) (by kernel_rfl) hc
  exact ⟨i, yaa3 (by kernel_rfl), trivial⟩) g2
 exact ⟨⟨nm, p, l⟩, zje (by kernel_rfl), trivial⟩
theorem yadk {n : Nat} {c : List AV} (h : ShC Tryz.prog n 162 c) : ∃ r : MPiece, za4 Tryz.prog 162 c = zgh r ∧ True := by
 obtain ⟨k, hk, h⟩ := zfv (ts := [3, 3]) (by kernel_rfl) h
 obtain ⟨_, _, rfl, g1, _, _, rfl, g2, rfl⟩ := h
 obtain ⟨a, rfl, _⟩ := zbz (k := .i64) (by kernel_rfl) g1
 obtain ⟨b, rfl, _⟩ := zbz (k := .i64) (by kernel_rfl) g2
 exact ⟨⟨a, b⟩, zje (by kernel_rfl), trivial⟩
theorem yahe {n : Nat} {c : List AV} (h : ShC Tryz.prog n 116 c) : ∃ r : MOpd, za4 Tryz.prog 116 c = zbj r ∧ True := by
 obtain ⟨k, hk, h⟩ := zfv (ts := [9, 5, 3, 3, 114, 3]) (by kernel_rfl) h
 obtain ⟨_, _, rfl, g1, _, _, rfl, g2, _, _, rfl, g3, _, _, rfl, g4, _, _, rfl, g5, _, _, rfl, g6, rfl⟩ := h
 obtain ⟨nm, rfl, w⟩ := zqo (by kernel_rfl) g1
 obtain ⟨kd, rfl, _⟩ := zbz (k := .u8) (by kernel_rfl) g2
 obtain ⟨a, rfl, _⟩ := zbz (k := .i64) (by kernel_rfl) g3
 obtain ⟨b, rfl, _⟩ := zbz (k := .i64) (by kernel_rfl) g4
 obtain ⟨p, l, rfl, _, _⟩ := zml (e := 162) (z := 2) (f := zgh) (q := fun _ => True) (by kernel_rfl) (by kernel_rfl) (fun j c hj hc => yadk hc) g5
 obtain ⟨d, rfl, _⟩ := zbz (k := .i64) (by kernel_rfl) g6
 exact ⟨⟨nm, kd, a, b, p, l, d⟩, zje (by kernel_rfl), trivial⟩
theorem yamf {n : Nat} {c : List AV} (h : ShC Tryz.prog n 122 c) : ∃ r : MEff, za4 Tryz.prog 122 c = zu4 r ∧ (RawT r.addr ∧ RawT r.value ∧ RawT r.cond) ∧ (NumT r.addr ∧ NumT r.value ∧ NumT r.cond) := by
 obtain ⟨k, hk, h⟩ := zfv (ts := [5, 3, 3, 120, 120, 120]) (by kernel_rfl) h
 obtain ⟨_, _, rfl, g1, _, _, rfl, g2, _, _, rfl, g3, _, _, rfl, g4, _, _, rfl, g5, _, _, rfl, g6, rfl⟩ := h
 obtain ⟨kd, rfl, _⟩ := zbz (k := .u8) (by kernel_rfl) g1
 obtain ⟨a, rfl, _⟩ := zbz (k := .i64) (by kernel_rfl) g2
 obtain ⟨b, rfl, _⟩ := zbz (k := .i64) (by kernel_rfl) g3
 obtain ⟨t1, rfl, q1⟩ := zqp _ _ g4
 obtain ⟨t2, rfl, q2⟩ := zqp _ _ g5
 obtain ⟨t3, rfl, q3⟩ := zqp _ _ g6
 exact ⟨⟨kd, a, b, t1, t2, t3⟩, by rw [zje (by kernel_rfl)]; simp [zu4, effC], ⟨q1.1, q2.1, q3.1⟩, q1.2, q2.2, q3.2⟩
structure InsOk (s : MInstr) : Prop where
 o : s.operands.length < 2 ^ 62
 e : s.effects.length < 2 ^ 62
 t : ∀ x ∈ s.effects, RawT x.addr ∧ RawT x.value ∧ RawT x.cond
 n : ∀ x ∈ s.effects, NumT x.addr ∧ NumT x.value ∧ NumT x.cond
 s : 0 ≤ s.mask ∧ s.mask < 2 ^ 64 ∧ 0 ≤ s.mat ∧ s.mat < 2 ^ 64
theorem yadj {n : Nat} {c : List AV} (h : ShC Tryz.prog n 113 c) : ∃ r : MInstr, za4 Tryz.prog 113 c = zaf r ∧ InsOk r := by
 obtain ⟨k, hk, h⟩ := zfv (ts := [9, 30, 30, 110, 111, 3, 3, 3, 3]) (by kernel_rfl) h
 obtain ⟨_, _, rfl, g1, _, _, rfl, g2, _, _, rfl, g3, _, _, rfl, g4, _, _, rfl, g5, _, _, rfl, g6, _, _, rfl, g7, _, _, rfl, g8, _, _, rfl, g9, rfl⟩ := h
 obtain ⟨nm, rfl, w⟩ := zqo (by kernel_rfl) g1
 obtain ⟨mk, rfl, w1⟩ := zbz (k := .u64) (by kernel_rfl) g2
 obtain ⟨mt, rfl, w2⟩ := zbz (k := .u64) (by kernel_rfl) g3
 obtain ⟨p, l, rfl, hl, _⟩ := zml (e := 116) (z := 6) (f := zbj) (q := fun _ => True) (by kernel_rfl) (by kernel_rfl) (fun j c hj hc => yahe hc) g4
 obtain ⟨p2, l2, rfl, hl2, hq⟩ := zml (e := 122) (z := 21) (f := zu4) (q := fun r => (RawT r.addr ∧ RawT r.value ∧ RawT r.cond) ∧ (NumT r.addr ∧ NumT r.value ∧ NumT r.cond)) (by kernel_rfl) (by kernel_rfl) (fun j c hj hc => yamf hc) g5
 obtain ⟨a, rfl, _⟩ := zbz (k := .i64) (by kernel_rfl) g6
 obtain ⟨b, rfl, _⟩ := zbz (k := .i64) (by kernel_rfl) g7
 obtain ⟨d, rfl, _⟩ := zbz (k := .i64) (by kernel_rfl) g8
 obtain ⟨f, rfl, _⟩ := zbz (k := .i64) (by kernel_rfl) g9
 have a1 := zxg w1
 have a2 := zxg w2
 exact ⟨⟨nm, mk, mt, p, l, p2, l2, a, b, d, f⟩, zje (by kernel_rfl), hl, hl2, fun x hx => (hq x hx).1, fun x hx => (hq x hx).2, a1.1, a1.2, a2.1, a2.2⟩
theorem yahd {n : Nat} {c : List AV} (h : ShC Tryz.prog n 27 c) : ∃ m : MMach, za4 Tryz.prog 27 c = zac m ∧ RawM m ∧ NumM m := by
 obtain ⟨k, hk, h⟩ := zfv (ts := [9, 3, 3, 22, 23, 24, 25]) (by kernel_rfl) h
 obtain ⟨_, _, rfl, g1, _, _, rfl, g2, _, _, rfl, g3, _, _, rfl, g4, _, _, rfl, g5, _, _, rfl, g6, _, _, rfl, g7, rfl⟩ := h
 obtain ⟨nm, rfl, w⟩ := zqo (by kernel_rfl) g1
 obtain ⟨a, rfl, _⟩ := zbz (k := .i64) (by kernel_rfl) g2
 obtain ⟨b, rfl, _⟩ := zbz (k := .i64) (by kernel_rfl) g3
 obtain ⟨p1, l1, rfl, h1, q1⟩ := zml (e := 137) (z := 4) (f := zei) (q := fun r => r.name.size < 2 ^ 62) (by kernel_rfl) (by kernel_rfl) (fun j c hj hc => yamg hc) g4
 obtain ⟨p2, l2, rfl, h2, _⟩ := zml (e := 109) (z := 2) (f := zem) (q := fun _ => True) (by kernel_rfl) (by kernel_rfl) (fun j c hj hc => yahb hc) g5
 obtain ⟨p3, l3, rfl, h3, q3⟩ := zml (e := 154) (z := 2) (f := unV) (q := fun r => r.name.size < 2 ^ 62) (by kernel_rfl) (by kernel_rfl) (fun j c hj hc => yauf hc) g6
 obtain ⟨p4, l4, rfl, h4, q4⟩ := zml (e := 113) (z := 9) (f := zaf) (q := InsOk) (by kernel_rfl) (by kernel_rfl) (fun j c hj hc => yadj hc) g7
 exact ⟨⟨nm, a, b, p1, l1, p2, l2, p3, l3, p4, l4⟩, zje (by kernel_rfl), ⟨h1, h2, h3, h4, w, fun s hs => (q4 s hs).o, fun s hs => (q4 s hs).e, fun s hs => (q4 s hs).t⟩, ⟨q1, q3, fun s hs => (q4 s hs).s, fun s hs => (q4 s hs).n⟩⟩
theorem zsl {n : Nat} {c : List AV} (h : ShC Tryz.prog n 32 c) : ∃ (r v : Sv) (s : MState), za4 Tryz.prog 32 c = stV r v s ∧ StOk r v s ∧ StNum s ∧ BOk s.mem := by
 obtain ⟨k, hk, h⟩ := zfv (ts := [28, 29, 30, 3]) (by kernel_rfl) h
 obtain ⟨_, _, rfl, g1, _, _, rfl, g2, _, _, rfl, g3, _, _, rfl, g4, rfl⟩ := h
 obtain ⟨a1, c1, l1, rfl, i1, h1, q1⟩ := yahc (e := 30) (z := 1) (f := zcc) (q := fun i => 0 ≤ i ∧ i < 18446744073709551616) (by kernel_rfl) (by kernel_rfl) (fun j c hj hc => by
  obtain ⟨i, rfl, w⟩ := zbz (k := .u64) (by kernel_rfl) hc
  exact ⟨i, yaa3 (by kernel_rfl), zxg w⟩) g1
 obtain ⟨a2, c2, l2, rfl, i2, h2, q2⟩ := yahc (e := 57) (z := 2) (f := za0) (q := fun c => 0 ≤ c.byte ∧ c.byte < 256) (by kernel_rfl) (by kernel_rfl) (fun j c hj hc => by
  obtain ⟨k, hk, h⟩ := zfv (ts := [30, 5]) (by kernel_rfl) hc
  obtain ⟨_, _, rfl, g1, _, _, rfl, g2, rfl⟩ := h
  obtain ⟨a, rfl, _⟩ := zbz (k := .u64) (by kernel_rfl) g1
  obtain ⟨b, rfl, w⟩ := zbz (k := .u8) (by kernel_rfl) g2
  exact ⟨⟨a, b⟩, zje (by kernel_rfl), ya2d w⟩) g2
 obtain ⟨pc, rfl, _⟩ := zbz (k := .u64) (by kernel_rfl) g3
 obtain ⟨cy, rfl, _⟩ := zbz (k := .i64) (by kernel_rfl) g4
 exact ⟨⟨a1, c1, 1⟩, ⟨a2, c2, 2⟩, ⟨l1, l2, pc, cy⟩, zje (by kernel_rfl), ⟨⟨fun hp => i1 (List.length_pos_iff.1 hp), fun _ => rfl⟩, ⟨fun hp => i2 (List.length_pos_iff.1 hp), fun _ => rfl⟩, h1, h2⟩, ⟨q1⟩, q2⟩
end Go.Proofs.YtcfcphhamfhfcaaGreatDoor.v
namespace Go.Proofs.YtcfcphhamfhfcaaGreatDoor.v
open Go Go.Ab
set_option maxRecDepth 100000
set_option linter.unusedSimpArgs false
set_option linter.unusedVariables false
def yafs (P : Program) (t : TypeId) : Option (List (TypeId × Nat)) := match P.underlying t with | some (.struct fs) => some (fs.toList.map fun f => (f.type, f.offset)) | _ => none
def arrT (P : Program) (t : TypeId) : Option (Nat × TypeId) := match P.underlying t with | some (.array n e) => some (n, e) | _ => none
theorem yau3 (P : Program) (t : TypeId) : P.underlying t = some .string ↔ strT P t = true := by
 unfold strT
 cases h : P.underlying t with
 | none => simp
 | some u => cases u <;> simp
section
variable {H : Type} {enc : TypeId × Value → H} {P : Program} {w : World} {base : Nat} {sp : Nat → Bool} {held : Bool} {fuel : Nat}
theorem yakf {t : TypeId} {cs : List Value} {b : List UInt8} {q : List MemPlace} (hu : strT P t = true) (h : DataW.trod enc P w base sp held fuel t cs = some (.lit (.string b), q)) : cs = [.string ⟨b.toArray⟩] := by
 obtain ⟨s, rfl, e, _⟩ := DataW.trod_string ((yau3 P t).2 hu) h
 simp only [Prod.mk.injEq, DataW.lit.injEq, Lit.string.injEq] at e
 rw [e.1]
theorem zzz {t : TypeId} {k : IntKind} {cs : List Value} {i : Int} {q : List MemPlace} (hu : intT P t = some k) (h : DataW.trod enc P w base sp held fuel t cs = some (.lit (.int k i), q)) : cs = [.int k i] := by
 unfold intT at hu
 split at hu
 ·rename_i k' hk
  injection hu with hu
  subst hu
  obtain ⟨j, rfl, e, _⟩ := DataW.trod_int hk h
  simp only [Prod.mk.injEq, DataW.lit.injEq, Lit.int.injEq] at e
  rw [e.1.2]
 ·cases hu
theorem zx1 {t a b c : TypeId} {cs : List Value} {s : List UInt8} {x y : Int} {q : List MemPlace} (hu : yafs P t = some [(a, 0), (b, 1), (c, 2)]) (ha : strT P a = true) (hb : intT P b = some .i64) (hc : intT P c = some .i64) (z : P.cellsOf t = 3) (za : P.cellsOf a = 1) (zb : P.cellsOf b = 1) (zc : P.cellsOf c = 1)
  (h : DataW.trod enc P w base sp held fuel t cs = some (.agg [.lit (.string s), .lit (.int .i64 x), .lit (.int .i64 y)], q)) : cs = [.string ⟨s.toArray⟩, .int .i64 x, .int .i64 y] := by
 unfold yafs at hu
 split at hu
 ·rename_i fs hf
  injection hu with hu
  obtain ⟨xs, n, _, e, hl, hx, hi⟩ := DataW.trod_struct hf h
  simp only [Prod.mk.injEq, DataW.agg.injEq] at e
  obtain ⟨f1, f2, f3, e2⟩ : ∃ f1 f2 f3, fs.toList = [f1, f2, f3] := by
   have hl3 := congrArg List.length hu
   rw [List.length_map] at hl3
   match h : fs.toList, hl3 with
   | [f1, f2, f3], _ => exact ⟨f1, f2, f3, rfl⟩
  rw [e2] at hu
  simp only [List.map_cons, List.map_nil, List.cons.injEq, Prod.mk.injEq, and_true] at hu
  obtain ⟨⟨u1, u2⟩, ⟨u3, u4⟩, u5, u6⟩ := hu
  have g1 : fs[0]? = some f1 := by rw [← Array.getElem?_toList, e2]; rfl
  have g2 : fs[1]? = some f2 := by rw [← Array.getElem?_toList, e2]; rfl
  have g3 : fs[2]? = some f3 := by rw [← Array.getElem?_toList, e2]; rfl
  have t1 := hi 0 f1 g1
  have t2 := hi 1 f2 g2
  have t3 := hi 2 f3 g3
  rw [u1, u2, za] at t1
  rw [u3, u4, zb] at t2
  rw [u5, u6, zc] at t3
  obtain ⟨p1, p2, p3, rfl⟩ : ∃ p1 p2 p3, xs = [p1, p2, p3] := by
   have : (xs.map (·.1)).length = 3 := by rw [← e.1]; rfl
   rw [List.length_map] at this
   match xs, this with
   | [p1, p2, p3], _ => exact ⟨p1, p2, p3, rfl⟩
  simp only [List.map_cons, List.map_nil, List.cons.injEq, and_true] at e
  obtain ⟨⟨e3, e4, e5⟩, _⟩ := e
  have k1 := yakf ha (t1.trans (show _ = some ((DataW.lit (.string s) : DataW H), p1.2) by rw [e3]; rfl))
  have k2 := zzz hb (t2.trans (show _ = some ((DataW.lit (.int .i64 x) : DataW H), p2.2) by rw [e4]; rfl))
  have k3 := zzz hc (t3.trans (show _ = some ((DataW.lit (.int .i64 y) : DataW H), p3.2) by rw [e5]; rfl))
  rw [z] at hl
  match cs, hl with
  | [c1, c2, c3], _ =>
   simp at k1 k2 k3
   rw [k1, k2, k3]
 ·cases hu
end
def rowD {H : Type} (r : List UInt8 × Int × Int) : DataW H := DataW.agg [DataW.lit (.string r.1), DataW.lit (.int .i64 r.2.1), DataW.lit (.int .i64 r.2.2)]
def rowV (r : List UInt8 × Int × Int) : List Value := [.string ⟨r.1.toArray⟩, .int .i64 r.2.1, .int .i64 r.2.2]
def rowA (r : List UInt8 × Int × Int) : List AV := [.str ⟨r.1.toArray⟩, .int .i64 r.2.1, .int .i64 r.2.2]
def rowsL : List (List UInt8 × Int × Int) := [([], 0, 0), ([], 0, 0), ([], 0, 0), ([110, 111, 116], 1, 1), ([110, 101, 103], 1, 1), ([97, 100, 100], 2, 1), ([115, 117, 98], 2, 1), ([109, 117, 108], 2, 1), ([97, 110, 100], 2, 1), ([111, 114], 2, 1), ([120, 111, 114], 2, 1), ([115, 104, 108], 2, 1), ([115, 104, 114], 2, 1), ([115, 97, 114], 2, 1), ([117, 100, 105, 118], 2, 1), ([117, 114, 101, 109], 2, 1), ([101, 113], 2, 2), ([117, 108, 116], 2, 2), ([115, 108, 116], 2, 2), ([105, 116, 101], 3, 3), ([99, 111, 110, 99, 97, 116], 2, 4), ([101, 120, 116, 114, 97, 99, 116], 1, 5), ([122, 101, 120, 116], 1, 6), ([115, 101, 120, 116], 1, 6), ([108, 111, 97, 100], 1, 7)]
theorem yah4 : (Rows.laid_retarget_term_shapes : DataW Unit) = .agg (rowsL.map rowD) := rfl
theorem zsm : shapesC = rowsL.flatMap rowA := rfl
theorem chop {α : Type} {n : Nat} : ∀ (l : List (List α)) (cs : List α), (∀ x ∈ l, x.length = n) → cs.length = l.length * n → (∀ i x, l[i]? = some x → (cs.drop (i * n)).take n = x) → cs = l.flatten
 | [], cs, _, hl, _ => by
  simp at hl; subst hl; rfl
 | x :: l, cs, hn, hl, h => by
  have h0 := h 0 x rfl
  simp only [Nat.zero_mul, List.drop_zero] at h0
  rw [List.flatten_cons, ← List.take_append_drop n cs, h0]
  congr 1
  refine chop l (cs.drop n) (fun y hy => hn y (by simp [hy])) ?_ (fun i y hy => ?_)
  ·rw [List.length_drop, hl, List.length_cons, Nat.succ_mul]; omega
  ·have := h (i + 1) y hy
   rw [List.drop_drop]
   rwa [Nat.succ_mul, Nat.add_comm] at this
theorem yakh {W : World} (h : laidMet Tryz.prog [("retarget/term.shapes", Rows.laid_retarget_term_shapes)] W) : ∃ cs : Array Value, W.var? Tryz.prog "retarget/term.shapes" = some cs ∧ cs.toList = (rowsL.map rowV).flatten := by
 obtain ⟨ps, ⟨g, t, cs, fuel, p, q, hg, ht, hvar, hd, _, _⟩, _⟩ := h
 refine ⟨cs, hvar, ?_⟩
 obtain rfl : g = 0 := Option.some.inj (hg.symm.trans (show Tryz.prog.globalNamed "retarget/term.shapes" = some 0 by kernel_rfl))
 obtain rfl : t = 243 := Option.some.inj (ht.symm.trans (by kernel_rfl))
 rw [yah4] at hd
 have ha : arrT Tryz.prog 243 = some (25, 236) := by kernel_rfl
 unfold arrT at ha
 split at ha
 ·rename_i n e hu
  injection ha with ha
  injection ha with ha1 ha2
  subst ha1 ha2
  obtain ⟨xs, m, _, e, hl, hx, hi⟩ := DataW.trod_array hu hd
  simp only [Prod.mk.injEq, DataW.agg.injEq] at e
  have z : Tryz.prog.cellsOf 243 = 75 := by kernel_rfl
  have z3 : Tryz.prog.cellsOf 236 = 3 := by kernel_rfl
  rw [z] at hl
  rw [z3] at hi
  refine chop (n := 3) _ _ (fun x hx => ?_) (by rw [hl]; rfl) (fun i x hx => ?_)
  ·obtain ⟨r, _, rfl⟩ := List.mem_map.1 hx; rfl
  ·rw [List.getElem?_map] at hx
   cases hr : rowsL[i]? with
   | none => rw [hr] at hx; cases hx
   | some r =>
    rw [hr] at hx
    injection hx with hx
    subst hx
    have hlt : i < 25 := by
     have := (List.getElem?_eq_some_iff.1 hr).1
     exact this
    have hq := hi i hlt
    have hm : (xs.map (·.1))[i]? = some (rowD r) := by rw [← e.1, List.getElem?_map, hr]; rfl
    rw [List.getElem?_map] at hm
    cases hy : xs[i]? with
    | none => rw [hy] at hm; cases hm
    | some y =>
     rw [hy] at hm hq
     injection hm with hm
     exact zx1 (a := 9) (b := 3) (c := 3) (by kernel_rfl) (by kernel_rfl) (by kernel_rfl) (by kernel_rfl) (by kernel_rfl) (by kernel_rfl) (by kernel_rfl) (by kernel_rfl) (hq.trans (show _ = some (rowD r, y.2) by rw [← hm]))
 ·cases ha
theorem yah3 (ι : Inj) : AV.concL ι shapesC = (rowsL.map rowV).flatten := by rw [zsm]; rfl
theorem yate {W : World} (h : laidMet Tryz.prog [("retarget/term.shapes", Rows.laid_retarget_term_shapes)] W) : znx W W.heap.size := by
 obtain ⟨cs, hv, hc⟩ := yakh h
 have hg : Tryz.prog.globalNamed "retarget/term.shapes" = some 0 := by kernel_rfl
 intro g v hgv
 rw [yafz] at hgv
 unfold glob at hgv
 split at hgv
 ·rename_i e
  injection hgv with hgv
  subst e hgv
  refine ⟨?_, fun ι => rfl⟩
  have cell : ∀ j, W.cell? ⟨0, j, none⟩ = cs[j]? := fun j => World.var?_cell hg hv j
  simp only [AV.OK]
  refine ⟨?_, fun ι j c hj => ?_, ?_⟩
  ·refine zz0 (v := .string ⟨#[]⟩) (a := ⟨0, 0, none⟩) ?_
   rw [cell, ← Array.getElem?_toList, hc]; rfl
  ·have e : (Addr.add ⟨0, 0, none⟩ j) = ⟨0, j, none⟩ := by
    simp [Addr.add]
    exact fun h => h.symm
   rw [e, cell, ← Array.getElem?_toList, hc, ← yah3 ι]
   exact ztg ι _ j c hj
  ·rw [zaz]
   intro v hv
   rw [zsm] at hv
   obtain ⟨r, _, hr⟩ := List.mem_flatMap.1 hv
   simp only [rowA, List.mem_cons, List.not_mem_nil, or_false] at hr
   rcases hr with rfl | rfl | rfl <;> simp [AV.OK]
 ·cases hgv
end Go.Proofs.YtcfcphhamfhfcaaGreatDoor.v
namespace Go.Proofs.YtcfcphhamfhfcaaGreatDoor.v
open Go Go.Ab Go.RowKit
set_option linter.unusedVariables false
set_option maxRecDepth 100000
def yaz9 (P : Program) : Bool := P.funcs.toList.all fun f => !(f.name == "runtime.NumGoroutine")
theorem yal7 {P : Program} (h : yaz9 P = true) : ∀ (f : Nat) (fn : Func), P.funcs[f]? = some fn → (fn.name == "runtime.NumGoroutine") = false := by
 intro f fn hf
 have := List.all_eq_true.1 h fn (List.mem_of_getElem? (by simpa using hf))
 simpa using this
theorem names : Names Tryz.prog := ⟨yal7 (by kernel_rfl)⟩
theorem ya48 : Tryz.prog.follows .mixedOrders = true := by kernel_rfl
theorem own : ownKnob Tryz.prog.godebug = none := by kernel_rfl
theorem yad0 : Tryz.prog.underlying 4 = some .bool := by kernel_rfl
def i0 : Inj := fun _ => (0, 0)
theorem yavl {f : FuncId} {args : List AV} {vs : Array Value} {H : Heap} (h : zaq Tryz.prog (om Tryz.prog) f args ⟨0, []⟩ = some (.bool true, H)) (W : World) (gl : znx W W.heap.size) (hargs : ∀ a ∈ args, a.OK W W.heap.size 0)
  (hv : (args.map (AV.conc i0)).toArray = vs) : Calls Tryz.prog f vs W fun e w' => e = .returned (.bool true) ∧ Below W.heap.size W w' := by
 subst hv
 exact (yah7 names ya48 h W gl hargs i0).mono fun e w' ⟨⟨ι, he⟩, hb⟩ => ⟨he, hb⟩
def ya2b : List TypeId := [27, 9, 3, 22, 23, 24, 25, 137, 109, 154, 113, 80, 30, 110, 111, 116, 122, 5, 114, 162, 120, 118, 32, 28, 29, 57, 50]
theorem zh3 : yahr Tryz.prog ya2b = true := by kernel_rfl
theorem zqn {k : Nat} {c : List AV} (h : ShC Tryz.prog k 3 c) : ∃ i, za4 Tryz.prog 3 c = .int .i64 i := by
 obtain ⟨i, rfl, _⟩ := zbz (k := .i64) (by kernel_rfl) h
 exact ⟨i, yaa3 (by kernel_rfl)⟩
theorem yahf {k : Nat} {c : List AV} (h : ShC Tryz.prog k 30 c) : ∃ i, za4 Tryz.prog 30 c = .int .u64 i ∧ 0 ≤ i ∧ i < 18446744073709551616 := by
 obtain ⟨i, rfl, w⟩ := zbz (k := .u64) (by kernel_rfl) h
 exact ⟨i, yaa3 (by kernel_rfl), zxg w⟩
def cells75 : Array Value := ((rowsL.map rowV).flatten).toArray
noncomputable def zl9 (os : Os) : World :=
 {World.holding Tryz.prog os ⟨#[], #[], []⟩ with heap := (World.holding Tryz.prog os ⟨#[], #[], []⟩).heap.modify 0 fun
   | .cells _ t frozen => .cells cells75 t frozen
   | o => o }
theorem zma (os : Os) (l : Array Value) : ((zl9 os).forCall (fun _ _ => 0) ⟨#[], l, []⟩).memory.heap[0]? = some (.cells cells75 243 (0, 0)) := by kernel_rfl
theorem yalk (os : Os) (l : Array Value) : laidMet Tryz.prog [("retarget/term.shapes", Rows.laid_retarget_term_shapes)] ((zl9 os).forCall (fun _ _ => 0) ⟨#[], l, []⟩).memory := by
 refine ⟨_, ⟨0, 243, cells75, 8, [], [], by kernel_rfl, by kernel_rfl, by kernel_rfl, by kernel_rfl, rfl, rfl⟩, by decide +kernel, fun b off h => ?_⟩
 have h' : MemPlace.cell b off ∈ (List.range 75).map fun k => MemPlace.cell 0 k := h
 obtain ⟨k, hk, e⟩ := List.mem_map.1 h'
 injection e with e1 e2
 subst e1 e2
 refine ⟨⟨_, _, zma os l⟩, fun u v hc => ?_⟩
 simp only [World.cell?, zma os l] at hc
 have hm : Value.iface u v ∈ cells75.toList := by
  have hc' : cells75[k]? = some (Value.iface u v) := by simpa using hc
  exact List.mem_of_getElem? (by rw [Array.getElem?_toList]; exact hc')
 have ha : (cells75.toList.all fun x => match x with | .iface _ _ => false | _ => true) = true := by kernel_rfl
 have := List.all_eq_true.1 ha _ hm
 cases this
end Go.Proofs.YtcfcphhamfhfcaaGreatDoor.v
