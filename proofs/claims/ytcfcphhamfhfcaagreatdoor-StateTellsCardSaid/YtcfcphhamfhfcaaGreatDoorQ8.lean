/- What the law's proof leans on, part 27. Conditions: in each statement. -/
import Derived.Test.YtcfcphhamfhfcaaGreatDoorQ7
set_option linter.all false
namespace Go.Proofs.YtcfcphhamfhfcaaGreatDoor.v
open Go Go.Ab
set_option maxRecDepth 100000
set_option maxHeartbeats 4000000
set_option linter.unusedSimpArgs false
set_option linter.unusedVariables false
def zu5 {α : Type} (e : α → α → Bool) (a b : List α) (i : Nat) : Bool := match a[i]?, b[i]? with | some x, some y => e x y | _, _ => true
def eqL {α : Type} (e : α → α → Bool) (a b : List α) : Bool := decide ((a.length : Int) = (b.length : Int)) && zb9 (zu5 e a b) 0 a.length
theorem zk9 {α : Type} {e : α → α → Bool} {a b : List α} {i : Nat} (h : i < a.length) (h2 : i < b.length) : zu5 e a b i = e a[i] b[i] := by
 simp only [zu5, List.getElem?_eq_getElem h, List.getElem?_eq_getElem h2]
theorem zyc {α : Type} {e : α → α → Bool} (he : ∀ x y, e x y = true ↔ x = y) {a b : List α} : eqL e a b = true ↔ a = b := by
 unfold eqL
 rw [Bool.and_eq_true, decide_eq_true_iff, zbe]
 constructor
 ·rintro ⟨h1, h2⟩
  refine List.ext_getElem (by omega) fun i h3 h4 => ?_
  have := h2 i (Nat.zero_le _) h3
  rw [zk9 h3 h4] at this
  exact (he _ _).1 this
 ·rintro rfl
  refine ⟨rfl, fun i _ hi => ?_⟩
  rw [zk9 hi hi]
  exact (he _ _).2 rfl
def eqZ (x y : Int) : Bool := decide (x = y)
def eqC (x y : MCell) : Bool := decide (x.at_ = y.at_) && decide (x.byte = y.byte)
def u8V (n : Int) : AV := .int .u8 n
theorem yag0 {a b c d : Int} : zeg Tryz.prog .neq 57 (.agg [.int .u64 a, .int .u8 b]) (.agg [.int .u64 c, .int .u8 d]) = some (.bool !((a == c) && ((b == d) && true))) := by kernel_rfl
theorem zo0 {a b c d : Int} : zeg Tryz.prog .neq 57 (.agg [.int .u64 a, .int .u8 b]) (.agg [.int .u64 c, .int .u8 d]) = some (.bool !(decide (a = c) && decide (b = d))) := by
 rw [yag0, Bool.and_true]; rfl
theorem ya4o (x y : Sv) (a b : List Int) (hx : SvOk x 1 a.length) (hy : SvOk y 1 b.length) (hl : a.length < 2 ^ 62) (he : a.length = b.length) : ∀ i, i ≤ a.length → lim (some []) 0 (blk 0 (om Tryz.prog ⟨48, none⟩ 0 (.loop (lpb Tryz.f48 0)) ⟨⟨26, [(0, .rsl x.a x.c x.z (a.map zcc)), (1, .rsl y.a y.c y.z (b.map zcc)), (12, .int .i64 a.length), (13, .int .i64 i)]⟩, [], ⟨0, []⟩⟩)) =
  bif zb9 (zu5 eqZ a b) i a.length then some (.normal, ⟨⟨26, []⟩, [], ⟨0, []⟩⟩) else some (.ret, ⟨⟨26, [(4, .bool false)]⟩, [], ⟨0, []⟩⟩) := by
 refine zb8 ?_ (fun i h ih => ?_) <;> rw [zae]
 ·simp (maxSteps := 1000000) -implicitDefEqProofs only [↓reduceIte, ↓cond_true, ↓cond_false, sr1, sr2, kA, seval, d48, yacs, n48, e48, zba]
 ·have h2 : i < b.length := by omega
  have e1 := zl7 (f := zcc) (k := .i64) hx h
  have e2 := zl7 (f := zcc) (k := .i64) hy h2
  have e3 := zk9 (e := eqZ) h h2
  unfold eqZ at e3
  rw [zbr h]
  cases hq : zu5 eqZ a b i with
  | true =>
   have e4 : _ = true := e3.symm.trans hq
   simp (maxSteps := 1000000) -implicitDefEqProofs only [↓reduceIte, ↓cond_true, ↓cond_false, sr1, sr2, kA, seval, d48, yacs, n48, e48, dlt_t h, wi_nat (show i < 2 ^ 62 by omega), e1, e2, zcc, e4, ih]
  | false =>
   have e4 : _ = false := e3.symm.trans hq
   simp (maxSteps := 1000000) -implicitDefEqProofs only [↓reduceIte, ↓cond_true, ↓cond_false, sr1, sr2, kA, seval, d48, yacs, n48, e48, dlt_t h, e1, e2, zcc, e4]
theorem yatb (x y : Sv) (a b : List Int) (hx : SvOk x 1 a.length) (hy : SvOk y 1 b.length) (hl : a.length < 2 ^ 62) : zaq Tryz.prog (om Tryz.prog) 48 [.rsl x.a x.c x.z (a.map zcc), .rsl y.a y.c y.z (b.map zcc)] ⟨0, []⟩ = some (.bool (eqL eqZ a b), ⟨0, []⟩) := by
 unfold eqL
 rw [yaxd _ _ (by simp)]
 cases hd : decide ((a.length : Int) = (b.length : Int)) with
 | false => simp (maxSteps := 1000000) -implicitDefEqProofs only [↓reduceIte, ↓cond_true, ↓cond_false, sr1, sr2, kA, seval, d48, yacs, n48, e48, hd]
 | true =>
  have he : a.length = b.length := by have := of_decide_eq_true hd; omega
  have L := ya4o x y a b hx hy hl he 0 (Nat.zero_le _)
  simp only [Int.natCast_zero] at L
  cases hq : zb9 (zu5 eqZ a b) 0 a.length with
  | true =>
   rw [hq] at L
   simp (maxSteps := 1000000) -implicitDefEqProofs only [↓reduceIte, ↓cond_true, ↓cond_false, sr1, sr2, kA, seval, d48, yacs, n48, e48, hd, L]
  | false =>
   rw [hq] at L
   simp (maxSteps := 1000000) -implicitDefEqProofs only [↓reduceIte, ↓cond_true, ↓cond_false, sr1, sr2, kA, seval, d48, yacs, n48, e48, hd, L]
theorem yay1 (x y : Sv) (a b : List MCell) (hx : SvOk x 2 a.length) (hy : SvOk y 2 b.length) (hl : a.length < 2 ^ 62) (he : a.length = b.length) : ∀ i, i ≤ a.length → lim (some []) 0 (blk 0 (om Tryz.prog ⟨49, none⟩ 0 (.loop (lpb Tryz.f49 0)) ⟨⟨26, [(0, .rsl x.a x.c x.z (a.map za0)), (1, .rsl y.a y.c y.z (b.map za0)), (12, .int .i64 a.length), (13, .int .i64 i)]⟩, [], ⟨0, []⟩⟩)) =
  bif zb9 (zu5 eqC a b) i a.length then some (.normal, ⟨⟨26, []⟩, [], ⟨0, []⟩⟩) else some (.ret, ⟨⟨26, [(4, .bool false)]⟩, [], ⟨0, []⟩⟩) := by
 refine zb8 ?_ (fun i h ih => ?_) <;> rw [zae]
 ·simp (maxSteps := 1000000) -implicitDefEqProofs only [↓reduceIte, ↓cond_true, ↓cond_false, sr1, sr2, kA, seval, d49, yact, n49, e49, zba]
 ·have h2 : i < b.length := by omega
  have e1 := zl7 (f := za0) (k := .i64) hx h
  have e2 := zl7 (f := za0) (k := .i64) hy h2
  have e3 := zk9 (e := eqC) h h2
  unfold eqC at e3
  rw [zbr h]
  cases hq : zu5 eqC a b i with
  | true =>
   have e4 : _ = true := e3.symm.trans hq
   simp (maxSteps := 1000000) -implicitDefEqProofs only [↓reduceIte, ↓cond_true, ↓cond_false, sr1, sr2, kA, seval, d49, yact, n49, e49, dlt_t h, wi_nat (show i < 2 ^ 62 by omega), e1, e2, za0, zo0, e4, ih]
  | false =>
   have e4 : _ = false := e3.symm.trans hq
   simp (maxSteps := 1000000) -implicitDefEqProofs only [↓reduceIte, ↓cond_true, ↓cond_false, sr1, sr2, kA, seval, d49, yact, n49, e49, dlt_t h, e1, e2, za0, zo0, e4]
theorem yakt (x y : Sv) (a b : List MCell) (hx : SvOk x 2 a.length) (hy : SvOk y 2 b.length) (hl : a.length < 2 ^ 62) : zaq Tryz.prog (om Tryz.prog) 49 [.rsl x.a x.c x.z (a.map za0), .rsl y.a y.c y.z (b.map za0)] ⟨0, []⟩ = some (.bool (eqL eqC a b), ⟨0, []⟩) := by
 unfold eqL
 rw [yaxe _ _ (by simp)]
 cases hd : decide ((a.length : Int) = (b.length : Int)) with
 | false => simp (maxSteps := 1000000) -implicitDefEqProofs only [↓reduceIte, ↓cond_true, ↓cond_false, sr1, sr2, kA, seval, d49, yact, n49, e49, hd]
 | true =>
  have he : a.length = b.length := by have := of_decide_eq_true hd; omega
  have L := yay1 x y a b hx hy hl he 0 (Nat.zero_le _)
  simp only [Int.natCast_zero] at L
  cases hq : zb9 (zu5 eqC a b) 0 a.length with
  | true =>
   rw [hq] at L
   simp (maxSteps := 1000000) -implicitDefEqProofs only [↓reduceIte, ↓cond_true, ↓cond_false, sr1, sr2, kA, seval, d49, yact, n49, e49, hd, L]
  | false =>
   rw [hq] at L
   simp (maxSteps := 1000000) -implicitDefEqProofs only [↓reduceIte, ↓cond_true, ↓cond_false, sr1, sr2, kA, seval, d49, yact, n49, e49, hd, L]
theorem yaut (x y : Sv) (a b : List Int) (hx : SvOk x 1 a.length) (hy : SvOk y 1 b.length) (hl : a.length < 2 ^ 62) (he : a.length = b.length) : ∀ i, i ≤ a.length → lim (some []) 0 (blk 0 (om Tryz.prog ⟨35, none⟩ 0 (.loop (lpb Tryz.f35 0)) ⟨⟨26, [(0, .rsl x.a x.c x.z (a.map zcc)), (1, .rsl y.a y.c y.z (b.map zcc)), (5, .int .i64 i)]⟩, [], ⟨0, []⟩⟩)) =
  bif zb9 (zu5 eqZ a b) i a.length then some (.normal, ⟨⟨26, []⟩, [], ⟨0, []⟩⟩) else some (.ret, ⟨⟨26, [(4, .bool false)]⟩, [], ⟨0, []⟩⟩) := by
 refine zb8 ?_ (fun i h ih => ?_) <;> rw [zae]
 ·simp (maxSteps := 1000000) -implicitDefEqProofs only [↓reduceIte, ↓cond_true, ↓cond_false, sr1, sr2, kA, seval, d35, yacq, n35, e35, zba]
 ·have h2 : i < b.length := by omega
  have e1 := zl7 (f := zcc) (k := .i64) hx h
  have e2 := zl7 (f := zcc) (k := .i64) hy h2
  have e3 := zk9 (e := eqZ) h h2
  unfold eqZ at e3
  rw [zbr h]
  cases hq : zu5 eqZ a b i with
  | true =>
   have e4 : _ = true := e3.symm.trans hq
   simp (maxSteps := 1000000) -implicitDefEqProofs only [↓reduceIte, ↓cond_true, ↓cond_false, sr1, sr2, kA, seval, d35, yacq, n35, e35, dlt_t h, wi_nat (show i < 2 ^ 62 by omega), e1, e2, zcc, e4, ih]
  | false =>
   have e4 : _ = false := e3.symm.trans hq
   simp (maxSteps := 1000000) -implicitDefEqProofs only [↓reduceIte, ↓cond_true, ↓cond_false, sr1, sr2, kA, seval, d35, yacq, n35, e35, dlt_t h, e1, e2, zcc, e4]
theorem yaid (x y : Sv) (a b : List Int) (hx : SvOk x 1 a.length) (hy : SvOk y 1 b.length) (hl : a.length < 2 ^ 62) : zaq Tryz.prog (om Tryz.prog) 35 [.rsl x.a x.c x.z (a.map zcc), .rsl y.a y.c y.z (b.map zcc)] ⟨0, []⟩ = some (.bool (eqL eqZ a b), ⟨0, []⟩) := by
 unfold eqL
 rw [yaw4 _ _ (by simp)]
 cases hd : decide ((a.length : Int) = (b.length : Int)) with
 | false => simp (maxSteps := 1000000) -implicitDefEqProofs only [↓reduceIte, ↓cond_true, ↓cond_false, sr1, sr2, kA, seval, d35, yacq, n35, e35, hd]
 | true =>
  have he : a.length = b.length := by have := of_decide_eq_true hd; omega
  have L := yaut x y a b hx hy hl he 0 (Nat.zero_le _)
  simp only [Int.natCast_zero] at L
  cases hq : zb9 (zu5 eqZ a b) 0 a.length with
  | true =>
   rw [hq] at L
   simp (maxSteps := 1000000) -implicitDefEqProofs only [↓reduceIte, ↓cond_true, ↓cond_false, sr1, sr2, kA, seval, d35, yacq, n35, e35, hd, L]
  | false =>
   rw [hq] at L
   simp (maxSteps := 1000000) -implicitDefEqProofs only [↓reduceIte, ↓cond_true, ↓cond_false, sr1, sr2, kA, seval, d35, yacq, n35, e35, hd, L]
theorem yaus (x y : Sv) (a b : List MCell) (hx : SvOk x 2 a.length) (hy : SvOk y 2 b.length) (hl : a.length < 2 ^ 62) (he : a.length = b.length) : ∀ i, i ≤ a.length → lim (some []) 0 (blk 0 (om Tryz.prog ⟨36, none⟩ 0 (.loop (lpb Tryz.f36 0)) ⟨⟨26, [(0, .rsl x.a x.c x.z (a.map za0)), (1, .rsl y.a y.c y.z (b.map za0)), (5, .int .i64 i)]⟩, [], ⟨0, []⟩⟩)) =
  bif zb9 (zu5 eqC a b) i a.length then some (.normal, ⟨⟨26, []⟩, [], ⟨0, []⟩⟩) else some (.ret, ⟨⟨26, [(4, .bool false)]⟩, [], ⟨0, []⟩⟩) := by
 refine zb8 ?_ (fun i h ih => ?_) <;> rw [zae]
 ·simp (maxSteps := 1000000) -implicitDefEqProofs only [↓reduceIte, ↓cond_true, ↓cond_false, sr1, sr2, kA, seval, d36, yacr, n36, e36, zba]
 ·have h2 : i < b.length := by omega
  have e1 := zl7 (f := za0) (k := .i64) hx h
  have e2 := zl7 (f := za0) (k := .i64) hy h2
  have e3 := zk9 (e := eqC) h h2
  unfold eqC at e3
  rw [zbr h]
  cases hq : zu5 eqC a b i with
  | true =>
   have e4 : _ = true := e3.symm.trans hq
   simp (maxSteps := 1000000) -implicitDefEqProofs only [↓reduceIte, ↓cond_true, ↓cond_false, sr1, sr2, kA, seval, d36, yacr, n36, e36, dlt_t h, wi_nat (show i < 2 ^ 62 by omega), e1, e2, za0, zo0, e4, ih]
  | false =>
   have e4 : _ = false := e3.symm.trans hq
   simp (maxSteps := 1000000) -implicitDefEqProofs only [↓reduceIte, ↓cond_true, ↓cond_false, sr1, sr2, kA, seval, d36, yacr, n36, e36, dlt_t h, e1, e2, za0, zo0, e4]
theorem yaib (x y : Sv) (a b : List MCell) (hx : SvOk x 2 a.length) (hy : SvOk y 2 b.length) (hl : a.length < 2 ^ 62) : zaq Tryz.prog (om Tryz.prog) 36 [.rsl x.a x.c x.z (a.map za0), .rsl y.a y.c y.z (b.map za0)] ⟨0, []⟩ = some (.bool (eqL eqC a b), ⟨0, []⟩) := by
 unfold eqL
 rw [yaw5 _ _ (by simp)]
 cases hd : decide ((a.length : Int) = (b.length : Int)) with
 | false => simp (maxSteps := 1000000) -implicitDefEqProofs only [↓reduceIte, ↓cond_true, ↓cond_false, sr1, sr2, kA, seval, d36, yacr, n36, e36, hd]
 | true =>
  have he : a.length = b.length := by have := of_decide_eq_true hd; omega
  have L := yaus x y a b hx hy hl he 0 (Nat.zero_le _)
  simp only [Int.natCast_zero] at L
  cases hq : zb9 (zu5 eqC a b) 0 a.length with
  | true =>
   rw [hq] at L
   simp (maxSteps := 1000000) -implicitDefEqProofs only [↓reduceIte, ↓cond_true, ↓cond_false, sr1, sr2, kA, seval, d36, yacr, n36, e36, hd, L]
  | false =>
   rw [hq] at L
   simp (maxSteps := 1000000) -implicitDefEqProofs only [↓reduceIte, ↓cond_true, ↓cond_false, sr1, sr2, kA, seval, d36, yacr, n36, e36, hd, L]
theorem yaur (x y : Sv) (a b : List Int) (hx : SvOk x 1 a.length) (hy : SvOk y 1 b.length) (hl : a.length < 2 ^ 62) (he : a.length = b.length) : ∀ i, i ≤ a.length → lim (some []) 0 (blk 0 (om Tryz.prog ⟨26, none⟩ 0 (.loop (lpb Tryz.f26 0)) ⟨⟨26, [(0, .rsl x.a x.c x.z (a.map u8V)), (1, .rsl y.a y.c y.z (b.map u8V)), (5, .int .i64 i)]⟩, [], ⟨0, []⟩⟩)) =
  bif zb9 (zu5 eqZ a b) i a.length then some (.normal, ⟨⟨26, []⟩, [], ⟨0, []⟩⟩) else some (.ret, ⟨⟨26, [(4, .bool false)]⟩, [], ⟨0, []⟩⟩) := by
 refine zb8 ?_ (fun i h ih => ?_) <;> rw [zae]
 ·simp (maxSteps := 1000000) -implicitDefEqProofs only [↓reduceIte, ↓cond_true, ↓cond_false, sr1, sr2, kA, seval, d26, yacp, n26, e26, zba]
 ·have h2 : i < b.length := by omega
  have e1 := zl7 (f := u8V) (k := .i64) hx h
  have e2 := zl7 (f := u8V) (k := .i64) hy h2
  have e3 := zk9 (e := eqZ) h h2
  unfold eqZ at e3
  rw [zbr h]
  cases hq : zu5 eqZ a b i with
  | true =>
   have e4 : _ = true := e3.symm.trans hq
   simp (maxSteps := 1000000) -implicitDefEqProofs only [↓reduceIte, ↓cond_true, ↓cond_false, sr1, sr2, kA, seval, d26, yacp, n26, e26, dlt_t h, wi_nat (show i < 2 ^ 62 by omega), e1, e2, u8V, e4, ih]
  | false =>
   have e4 : _ = false := e3.symm.trans hq
   simp (maxSteps := 1000000) -implicitDefEqProofs only [↓reduceIte, ↓cond_true, ↓cond_false, sr1, sr2, kA, seval, d26, yacp, n26, e26, dlt_t h, e1, e2, u8V, e4]
theorem zcy (x y : Sv) (a b : List Int) (hx : SvOk x 1 a.length) (hy : SvOk y 1 b.length) (hl : a.length < 2 ^ 62) : zaq Tryz.prog (om Tryz.prog) 26 [.rsl x.a x.c x.z (a.map u8V), .rsl y.a y.c y.z (b.map u8V)] ⟨0, []⟩ = some (.bool (eqL eqZ a b), ⟨0, []⟩) := by
 unfold eqL
 rw [yaw3 _ _ (by simp)]
 cases hd : decide ((a.length : Int) = (b.length : Int)) with
 | false => simp (maxSteps := 1000000) -implicitDefEqProofs only [↓reduceIte, ↓cond_true, ↓cond_false, sr1, sr2, kA, seval, d26, yacp, n26, e26, hd]
 | true =>
  have he : a.length = b.length := by have := of_decide_eq_true hd; omega
  have L := yaur x y a b hx hy hl he 0 (Nat.zero_le _)
  simp only [Int.natCast_zero] at L
  cases hq : zb9 (zu5 eqZ a b) 0 a.length with
  | true =>
   rw [hq] at L
   simp (maxSteps := 1000000) -implicitDefEqProofs only [↓reduceIte, ↓cond_true, ↓cond_false, sr1, sr2, kA, seval, d26, yacp, n26, e26, hd, L]
  | false =>
   rw [hq] at L
   simp (maxSteps := 1000000) -implicitDefEqProofs only [↓reduceIte, ↓cond_true, ↓cond_false, sr1, sr2, kA, seval, d26, yacp, n26, e26, hd, L]
def zy3 (s t : MState) : Bool := eqL eqZ s.regs t.regs && (eqL eqC s.mem t.mem && (decide (s.pc = t.pc) && decide (s.cycles = t.cycles)))
theorem zgl (r v r' v' : Sv) (s t : MState) (hs : StOk r v s) (ht : StOk r' v' t) : zaq Tryz.prog (om Tryz.prog) 18 [stV r v s, stV r' v' t] ⟨0, []⟩ = some (.bool (zy3 s t), ⟨0, []⟩) := by
 have h1 := yatb r r' s.regs t.regs hs.r ht.r hs.rl
 have h2 := yakt v v' s.mem t.mem hs.v ht.v hs.vl
 rw [yawy _ _ (by simp)]
 simp (maxSteps := 1000000) -implicitDefEqProofs only [↓reduceIte, ↓cond_true, ↓cond_false, sr1, sr2, kA, seval, d18, n18, stV, h1, h2, zy3, Bool.and_assoc]
theorem zbc (r v r' v' : Sv) (s t : MState) (hs : StOk r v s) (ht : StOk r' v' t) : zaq Tryz.prog (om Tryz.prog) 15 [stV r v s, stV r' v' t] ⟨0, []⟩ = some (.bool (zy3 s t), ⟨0, []⟩) := by
 have h1 := yaid r r' s.regs t.regs hs.r ht.r hs.rl
 have h2 := yaib v v' s.mem t.mem hs.v ht.v hs.vl
 rw [yawv _ _ (by simp)]
 simp (maxSteps := 1000000) -implicitDefEqProofs only [↓reduceIte, ↓cond_true, ↓cond_false, sr1, sr2, kA, seval, d15, n15, stV, h1, h2, zy3, Bool.and_assoc]
theorem yafp (x y : Int) : eqZ x y = true ↔ x = y := decide_eq_true_iff
theorem yata (x y : MCell) : eqC x y = true ↔ x = y := by
 obtain ⟨a, b⟩ := x
 obtain ⟨c, d⟩ := y
 simp [eqC]
theorem yaic {s t : MState} : zy3 s t = true ↔ s = t := by
 obtain ⟨a, b, c, d⟩ := s
 obtain ⟨e, f, g, h⟩ := t
 unfold zy3
 simp only [Bool.and_eq_true, zyc yafp, zyc yata, decide_eq_true_iff, MState.mk.injEq]
theorem zwe (x : Int) : zaq Tryz.prog (om Tryz.prog) 146 [.int .i64 x] ⟨0, []⟩ = some (.bool false, ⟨0, []⟩) := by
 have e : decide (x = x) = true := decide_eq_true rfl
 rw [yart _ _ (by simp)]
 simp (maxSteps := 1000000) -implicitDefEqProofs only [↓reduceIte, ↓cond_true, ↓cond_false, sr1, sr2, kA, seval, d146, n146, e]
theorem yac0 (x : Int) : zaq Tryz.prog (om Tryz.prog) 167 [.int .i64 x] ⟨0, []⟩ = some (.bool false, ⟨0, []⟩) := by
 have e : decide (x = x) = true := decide_eq_true rfl
 rw [yar5 _ _ (by simp)]
 simp (maxSteps := 1000000) -implicitDefEqProofs only [↓reduceIte, ↓cond_true, ↓cond_false, sr1, sr2, kA, seval, d167, n167, e]
theorem yaas (x y : Int) : zaq Tryz.prog (om Tryz.prog) 145 [.int .i64 x, .int .i64 y] ⟨0, []⟩ = some (.bool (decide (x < y)), ⟨0, []⟩) := by
 rw [yars _ _ (by simp)]
 simp (maxSteps := 1000000) -implicitDefEqProofs only [↓reduceIte, ↓cond_true, ↓cond_false, sr1, sr2, kA, seval, d145, n145, yac0]
def Asc (l : List Int) : Prop := l.Pairwise fun a b => a < b
def zle (l : List Int) (t : Int) : Nat := l.countP fun x => decide (x < t)
theorem yagu {l : List Int} {t : Int} {i : Nat} (hi : i ≤ l.length) (h1 : ∀ k (hk : k < l.length), k < i → l[k] < t) (h2 : ∀ k (hk : k < l.length), i ≤ k → t ≤ l[k]) : zle l t = i := by
 unfold zle
 rw [← List.take_append_drop i l, List.countP_append]
 have a : (l.take i).countP (fun x => decide (x < t)) = i := by
  have : (l.take i).countP (fun x => decide (x < t)) = (l.take i).length := by
   rw [List.countP_eq_length]
   intro x hx
   obtain ⟨k, hk, rfl⟩ := List.getElem_of_mem hx
   rw [List.length_take] at hk
   rw [List.getElem_take]
   exact decide_eq_true (h1 k (by omega) (by omega))
  rw [this, List.length_take]; omega
 have b : (l.drop i).countP (fun x => decide (x < t)) = 0 := by
  rw [List.countP_eq_zero]
  intro x hx
  obtain ⟨k, hk, rfl⟩ := List.getElem_of_mem hx
  rw [List.length_drop] at hk
  rw [List.getElem_drop]
  have := h2 (i + k) (by omega) (by omega)
  simp; omega
 rw [a, b]; omega
abbrev inH (l : List Int) : Heap := ⟨1, [some (.cells 3 (l.map zdt))]⟩
theorem half {i j : Nat} (h : i + j < 2 ^ 62) : True := trivial
theorem yamu (l : List Int) (hl : l.length < 1000000) (ha : Asc l) (t : Int) : ∀ d i j, j - i = d → i ≤ j → j ≤ l.length → (∀ k (hk : k < l.length), k < i → l[k] < t) → (∀ k (hk : k < l.length), j ≤ k → t ≤ l[k]) →
  lim (some [0, 1, 6, 7]) 1 (blk 0 (om Tryz.prog ⟨109, none⟩ 1 (.loop (lpb Tryz.f109 0)) ⟨⟨54, [(0, .sl 0 0 l.length 1), (1, .int .i64 t), (6, .int .i64 l.length), (7, .int .i64 i), (8, .int .i64 j)]⟩, [], inH l⟩)) = some (.normal, ⟨⟨54, [(0, .sl 0 0 l.length 1), (1, .int .i64 t), (6, .int .i64 l.length), (7, .int .i64 (zle l t))]⟩, [], inH l⟩) := by
 intro d
 induction d using Nat.strongRecOn with
 | _ d ih =>
 intro i j hd hij hj h1 h2
 rw [zae]
 by_cases hlt : i < j
 ·have hm : (i + j) / 2 < l.length := by omega
  have e0 : IntKind.i64.wrap ((i : Int) + (j : Int)) = ((i + j : Nat) : Int) := zrc (by omega)
  have e1 : IntKind.u64.wrap ((i + j : Nat) : Int) = ((i + j : Nat) : Int) := ze0 (by omega) (by omega)
  have e2 : zdp .shr .u64 ((i + j : Nat) : Int) 1 = some (.int .u64 (((i + j) / 2 : Nat) : Int)) := by
   unfold zdp
   rw [if_neg (by omega)]
   simp only [Int.reduceToNat]
   have : ((i + j : Nat) : Int).fdiv (2 ^ min 1 IntKind.u64.bits) = (((i + j) / 2 : Nat) : Int) := by
    rw [show min 1 IntKind.u64.bits = 1 from rfl, Int.fdiv_eq_ediv_of_nonneg _ (by decide)]
    omega
   rw [this]
  have e3 : IntKind.i64.wrap (((i + j) / 2 : Nat) : Int) = (((i + j) / 2 : Nat) : Int) := zjp (by omega) (by omega)
  have hx := Go.Ab.ix_sl (b := 0) (j := 0) (n := l.length) (sz := 1) (k := .i64) hm
  have hg := zkq hm
  have asc : ∀ a b (hb : b < l.length) (hab : a < b), l[a]'(by omega) < l[b] := fun a b hb hab => by
   have := List.pairwise_iff_getElem.1 ha a b (by omega) hb hab
   exact this
  cases hc : decide (l[(i + j) / 2] < t) with
  | true =>
   have hc' := of_decide_eq_true hc
   have L := ih (j - ((i + j) / 2 + 1)) (by omega) ((i + j) / 2 + 1) j rfl (by omega) hj (fun k hk hki => by
    by_cases q : k = (i + j) / 2
    ·subst q; exact hc'
    ·have := asc k ((i + j) / 2) hm (by omega); omega) h2
   simp (maxSteps := 1000000) -implicitDefEqProofs only [↓reduceIte, ↓cond_true, ↓cond_false, sr1, sr2, kA, seval, d109, n109, e109, dlt_t hlt, e0, e1, e2, e3, hx, hg, yaas, hc, wi_nat (show (i + j) / 2 < 2 ^ 62 by omega), L, zai, zak]
  | false =>
   have hc' := of_decide_eq_false hc
   have L := ih ((i + j) / 2 - i) (by omega) i ((i + j) / 2) rfl (by omega) (by omega) h1 (fun k hk hki => by
    by_cases q : k = (i + j) / 2
    ·subst q; omega
    ·have := asc ((i + j) / 2) k hk (by omega); omega)
   simp (maxSteps := 1000000) -implicitDefEqProofs only [↓reduceIte, ↓cond_true, ↓cond_false, sr1, sr2, kA, seval, d109, n109, e109, dlt_t hlt, e0, e1, e2, e3, hx, hg, yaas, hc, L, zai, zak]
 ·have e : i = j := by omega
  subst e
  have hp := yagu hj h1 h2
  simp (maxSteps := 1000000) -implicitDefEqProofs only [↓reduceIte, ↓cond_true, ↓cond_false, sr1, sr2, kA, seval, d109, n109, e109, hp, zai, zak]
theorem yadt (l : List Int) (hl : l.length < 1000000) (ha : Asc l) (t : Int) : zaq Tryz.prog (om Tryz.prog) 109 [.sl 0 0 l.length 1, .int .i64 t] (inH l) = some (.tup [.int .i64 (zle l t), .bool (match l[zle l t]? with | some x => decide (x = t) | none => false)], inH l) := by
 have L := yamu l hl ha t l.length 0 l.length rfl (Nat.zero_le _) (Nat.le_refl _) (fun k _ h => absurd h (Nat.not_lt_zero _)) (fun k hk h => absurd hk (by omega))
 have hle : zle l t ≤ l.length := List.countP_le_length
 simp only [Int.natCast_zero] at L
 rw [yarh _ _ (by simp)]
 by_cases h : zle l t < l.length
 ·have hx := Go.Ab.ix_sl (b := 0) (j := 0) (n := l.length) (sz := 1) (k := .i64) h
  have hg := zkq h
  have hd : decide ((zle l t : Int) < (l.length : Int)) = true := decide_eq_true (by omega)
  have em : (match l[zle l t]? with | some x => decide (x = t) | none => false) = decide (l[zle l t] = t) := by rw [List.getElem?_eq_getElem h]
  cases hq : decide (l[zle l t] = t) with
  | true => simp (maxSteps := 1000000) -implicitDefEqProofs only [↓reduceIte, ↓cond_true, ↓cond_false, sr1, sr2, kA, seval, d109, n109, e109, L, hd, hx, hg, hq, em, zwe, zai, zak]
  | false => simp (maxSteps := 1000000) -implicitDefEqProofs only [↓reduceIte, ↓cond_true, ↓cond_false, sr1, sr2, kA, seval, d109, n109, e109, L, hd, hx, hg, hq, em, zwe, zai, zak]
 ·have hd : decide ((zle l t : Int) < (l.length : Int)) = false := decide_eq_false (by omega)
  have em : (match l[zle l t]? with | some x => decide (x = t) | none => false) = false := by rw [List.getElem?_eq_none (by omega)]
  simp (maxSteps := 1000000) -implicitDefEqProofs only [↓reduceIte, ↓cond_true, ↓cond_false, sr1, sr2, kA, seval, d109, n109, e109, L, hd, em, zai, zak]
theorem zj8 : ∀ {l : List MReg} {i : Nat} {x : Int}, x ∈ zcs i l ↔ ∃ k, ∃ hk : k < l.length, x = ((i + k : Nat) : Int) ∧ l[k].of_ = -1
 | [], i, x => by
  simp [zcs]
 | r :: l, i, x => by
  have tail : (∃ k, ∃ hk : k < l.length, x = ((i + 1 + k : Nat) : Int) ∧ l[k].of_ = -1) ↔ ∃ k, ∃ hk : k < l.length, x = ((i + (k + 1) : Nat) : Int) ∧ l[k].of_ = -1 := by
   constructor
   ·rintro ⟨k, hk, e, h⟩; exact ⟨k, hk, by rw [e]; congr 1; omega, by simpa using h⟩
   ·rintro ⟨k, hk, e, h⟩; exact ⟨k, hk, by rw [e]; congr 1; omega, by simpa using h⟩
  have all : (∃ k, ∃ hk : k < (r :: l).length, x = ((i + k : Nat) : Int) ∧ (r :: l)[k].of_ = -1) ↔ (x = (i : Int) ∧ r.of_ = -1) ∨ ∃ k, ∃ hk : k < l.length, x = ((i + (k + 1) : Nat) : Int) ∧ l[k].of_ = -1 := by
   constructor
   ·rintro ⟨k, hk, e, h⟩
    cases k with
    | zero => exact .inl ⟨by simpa using e, by simpa using h⟩
    | succ k => exact .inr ⟨k, by simpa using hk, e, h⟩
   ·rintro (⟨e, h⟩ | ⟨k, hk, e, h⟩)
    ·exact ⟨0, by simp, by simpa using e, by simpa using h⟩
    ·exact ⟨k + 1, by simpa using hk, e, h⟩
  rw [all, ← tail, ← zj8]
  simp only [zcs]
  cases hd : decide (r.of_ = -1) with
  | true =>
   have := of_decide_eq_true hd
   simp [this]
  | false =>
   have := of_decide_eq_false hd
   simp [this]
theorem znl : ∀ {l : List MReg} {i : Nat}, Asc (zcs i l)
 | [], i => by simp [zcs, Asc]
 | r :: l, i => by
  simp only [zcs]
  cases hd : decide (r.of_ = -1) with
  | false => exact znl
  | true =>
   refine List.Pairwise.cons (fun x hx => ?_) znl
   obtain ⟨k, hk, e, _⟩ := zj8.1 hx
   omega
theorem zuv (m : MMach) : Asc (za1 m) := znl
def zxo (r : MReg) (i : Nat) : Int := bif decide (r.of_ = -1) then (i : Int) else r.of_
structure RegW (m : MMach) (k : Nat) (hk : k < m.regs.length) : Prop where
 of_ : -1 ≤ m.regs[k].of_
 mem : zxo m.regs[k] k ∈ za1 m
 low : 0 ≤ m.regs[k].low
 wid : 1 ≤ m.regs[k].width
 top : m.regs[k].low + m.regs[k].width ≤ 64
theorem regW {m : MMach} (h : zb1 m = 0) (k : Nat) (hk : k < m.regs.length) : RegW m k hk := by
 have hp := zg5 h
 unfold zhx at hp
 rw [Bool.and_eq_true, decide_eq_true_iff] at hp
 obtain ⟨_, hq⟩ := zg7 hp.2 (List.getElem_mem hk)
 unfold zrh at hq
 rw [Bool.and_eq_true] at hq
 have hw : 1 ≤ m.regs[k].width ∧ m.regs[k].width ≤ 64 := by simpa [inR] using hq.1
 cases ha : decide (m.regs[k].of_ = -1) with
 | true =>
  have h1 := of_decide_eq_true ha
  rw [ha] at hq
  simp only [cond_true, decide_eq_true_eq] at hq
  refine ⟨by omega, ?_, by omega, hw.1, by omega⟩
  unfold zxo
  rw [ha]
  exact zj8.2 ⟨k, hk, by simp, h1⟩
 | false =>
  rw [ha] at hq
  simp only [cond_false] at hq
  cases hI : inR m.regs[k].of_ 0 ((m.regs.length : Int) - 1) with
  | false => rw [hI] at hq; simp at hq
  | true =>
   obtain ⟨z0, z1⟩ := zd7 hI
   rw [hI, List.getElem?_eq_getElem z1] at hq
   simp only [cond_true, zuj, Bool.and_eq_true, decide_eq_true_eq] at hq
   obtain ⟨_, q1, q2, q3, q4⟩ := hq
   simp only [inR, Bool.and_eq_true, decide_eq_true_eq] at q3 q4
   rw [zjp (by omega) (by omega)] at q4
   refine ⟨by omega, ?_, by omega, hw.1, by omega⟩
   unfold zxo
   rw [ha]
   exact zj8.2 ⟨m.regs[k].of_.toNat, z1, by simp only [cond_false]; omega, q1⟩
def zf3 (m : MMach) (k : Nat) (hk : k < m.regs.length) : Nat := zle (za1 m) (zxo m.regs[k] k)
theorem yapm {l : List Int} (ha : Asc l) {p : Nat} (hp : p < l.length) : zle l l[p] = p := by
 refine yagu (by omega) (fun k hk h => ?_) (fun k hk h => ?_)
 ·exact List.pairwise_iff_getElem.1 ha k p hk hp h
 ·by_cases e : k = p
  ·subst e; omega
  ·have := List.pairwise_iff_getElem.1 ha p k hp hk (by omega)
   omega
theorem zyu {m : MMach} (h : zb1 m = 0) (k : Nat) (hk : k < m.regs.length) : ∃ hp : zf3 m k hk < (za1 m).length, (za1 m)[zf3 m k hk] = zxo m.regs[k] k := by
 obtain ⟨p, hp, e⟩ := List.getElem_of_mem (regW h k hk).mem
 have : zf3 m k hk = p := by unfold zf3; rw [← e]; exact yapm (zuv m) hp
 exact ⟨by omega, by simp only [this, e]⟩
def zim (x : Int) (l w : Nat) : Int := x / (2 ^ l : Nat) % (2 ^ w : Nat)
theorem yace {x : Int} (h0 : 0 ≤ x) (l w : Nat) : zim x l (w + 1) = zim x l w + zu3 x (l + w) * (2 ^ w : Nat) := by
 obtain ⟨n, rfl⟩ := Int.eq_ofNat_of_zero_le h0
 unfold zim zu3
 have e : n / 2 ^ l % 2 ^ (w + 1) = n / 2 ^ l % 2 ^ w + 2 ^ w * (n / 2 ^ l / 2 ^ w % 2) := Nat.mod_pow_succ
 rw [Nat.div_div_eq_div_mul, ← Nat.pow_add, Nat.mul_comm (2 ^ w)] at e
 exact_mod_cast e
theorem yaq4 (x : Int) (n : Nat) : zu3 x n = 0 ∨ zu3 x n = 1 := by unfold zu3; omega
theorem yakb (x : Int) (l w : Nat) : 0 ≤ zim x l w ∧ zim x l w < (2 ^ w : Nat) := by
 have := Nat.two_pow_pos w
 unfold zim
 exact ⟨Int.emod_nonneg _ (by omega), Int.emod_lt_of_pos _ (by omega)⟩
theorem zpf {x : Int} (h0 : 0 ≤ x) (h1 : x < 18446744073709551616) {w : Nat} (hw : w ≤ 64) : zzo x ((2 ^ w - 1 : Nat) : Int) = x % (2 ^ w : Nat) := by
 obtain ⟨n, rfl⟩ := Int.eq_ofNat_of_zero_le h0
 have p := Nat.two_pow_pos w
 have p2 : 2 ^ w ≤ 2 ^ 64 := Nat.pow_le_pow_right (by decide) hw
 have hn : n < 2 ^ 64 := by omega
 unfold zzo
 rw [BitVec.toNat_and, BitVec.ofInt_natCast, BitVec.ofInt_natCast, BitVec.toNat_ofNat, BitVec.toNat_ofNat, Nat.mod_eq_of_lt hn, Nat.mod_eq_of_lt (by omega), Nat.and_two_pow_sub_one_eq_mod]
 have := Nat.mod_lt n p
 rw [zh5 _ (by omega)]
 simp
theorem in_k {n k : Nat} (h : k < n) : inR (k : Int) 0 ((n : Int) - 1) = true := by simp [inR]; omega
theorem yami (m : MMach) (hm : MOk m) (h : zb1 m = 0) (k : Nat) (hk : k < m.regs.length) : zaq Tryz.prog (om Tryz.prog) 69 [zac m, .int .i64 k] ⟨0, []⟩ = some (.tup [.int .i64 (zf3 m k hk), .int .i64 m.regs[k].low, .int .i64 m.regs[k].width, .int .i64 0], ⟨0, []⟩) := by
 have hC := zj2 m hm
 rw [h] at hC
 have hT := yaiy m hm.b h
 have hr := hm.b.r
 have hB := yadt (za1 m) (by have := zfd hm.b; omega) (zuv m) (zxo m.regs[k] k)
 have W := (regW h k hk).of_
 have wl := zas hr
 simp only [zac, zad] at hC hT
 unfold zf3
 rw [yaoc _ _ (by simp)]
 cases ho : decide (m.regs[k].of_ = -1) with
 | true =>
  have := of_decide_eq_true ho
  have e1 : decide (0 ≤ m.regs[k].of_) = false := decide_eq_false (by omega)
  have e2 : zxo m.regs[k] k = (k : Int) := by unfold zxo; rw [ho]; rfl
  rw [e2] at hB ⊢
  simp (maxSteps := 1000000) -implicitDefEqProofs only [↓reduceIte, ↓cond_true, ↓cond_false, sr1, sr2, kA, seval, d69, yafw, n69, zac, zad, hC, zal, in_k hk, wl, ix_sl zab hk, zei, e1, hT, hB, zai, zak]
 | false =>
  have := of_decide_eq_false ho
  have e1 : decide (0 ≤ m.regs[k].of_) = true := decide_eq_true (by omega)
  have e2 : zxo m.regs[k] k = m.regs[k].of_ := by unfold zxo; rw [ho]; rfl
  rw [e2] at hB ⊢
  simp (maxSteps := 1000000) -implicitDefEqProofs only [↓reduceIte, ↓cond_true, ↓cond_false, sr1, sr2, kA, seval, d69, yafw, n69, zac, zad, hC, zal, in_k hk, wl, ix_sl zab hk, zei, e1, hT, hB, zai, zak]
theorem yaui (m : MMach) (hm : MOk m) (h : zb1 m = 0) (x : Int) (hx : inR x 0 ((m.regs.length : Int) - 1) = false) : zaq Tryz.prog (om Tryz.prog) 69 [zac m, .int .i64 x] ⟨0, []⟩ = some (.tup [.int .i64 0, .int .i64 0, .int .i64 0, .int .i64 2], ⟨0, []⟩) := by
 have hC := zj2 m hm
 rw [h] at hC
 have wl := zas hm.b.r
 simp only [zac, zad] at hC
 rw [yaoc _ _ (by simp)]
 simp (maxSteps := 1000000) -implicitDefEqProofs only [↓reduceIte, ↓cond_true, ↓cond_false, sr1, sr2, kA, seval, d69, yafw, n69, zac, zad, hC, zal, hx, wl]
abbrev mtI (m : MMach) : Heap := ⟨2, [some (.cells 27 (zad m)), some (.cells 3 ((za1 m).map zdt))]⟩
def rgOk (m : MMach) (l : List Int) (i : Nat) : Bool := okB (ze3 m ((za1 m).getD i 0)) (l.getD i 0)
theorem yalr (m : MMach) (hB : Bd m) (r : Sv) (l : List Int) (hr : SvOk r 1 l.length) (hl : l.length = (za1 m).length) (hq : ∀ i, i < l.length → rgOk m l i = true) (a b c : Int) : ∀ i, i ≤ l.length → lim (some [6, 7, 8]) 0 (blk 0 (om Tryz.prog ⟨95, none⟩ 0 (.loop (lpb Tryz.f95 0)) ⟨⟨54, [(3, .ptr 0 0), (6, .int .i64 a), (7, .int .i64 b), (8, .int .i64 c), (10, .sl 1 0 (za1 m).length 1), (31, .rsl r.a r.c r.z (l.map zcc)), (32, .int .i64 l.length), (33, .int .i64 i)]⟩, [], mtI m⟩)) = some (.normal, ⟨⟨54, [(6, .int .i64 a), (7, .int .i64 b), (8, .int .i64 c)]⟩, [], ⟨0, []⟩⟩) := by
 have ht := zfd hB
 have hu := hB.r
 refine zb8 ?_ (fun i h ih => ?_) <;> rw [zae]
 ·simp (maxSteps := 1000000) -implicitDefEqProofs only [↓reduceIte, ↓cond_true, ↓cond_false, sr1, sr2, kA, seval, d95, yaag, n95, yal5, e95, zai, zak]
 ·have hi2 : i < (za1 m).length := by omega
  have hx := zl7 (f := zcc) (k := .i64) hr h
  have hm := yab4 (List.getElem_mem hi2)
  have eO : okB (m.regs[(za1 m)[i].toNat]'hm.2).width l[i] = true := by
   have := hq i h
   unfold rgOk at this
   rw [zcq h, zcq hi2, zcf hm.2] at this
   exact this
  simp (maxSteps := 1000000) -implicitDefEqProofs only [↓reduceIte, ↓cond_true, ↓cond_false, sr1, sr2, kA, seval, d95, yaag, n95, yal5, e95, dlt_t h, wi_nat (show i < 2 ^ 62 by omega), Go.Ab.ix_sl hi2, zkq hi2, ix_z zab hm.1 hm.2, zei, hx, zcc, zmj, eO, ih, zai, zak]
theorem yac3 (m : MMach) (hm : MOk m) (h : zb1 m = 0) (r : Sv) (l : List Int) (hr : SvOk r 1 l.length) (hl : l.length = (za1 m).length) (hq : ∀ i, i < l.length → rgOk m l i = true) (k : Nat) (hk : k < m.regs.length) : zaq Tryz.prog (om Tryz.prog) 95 [zac m, .rsl r.a r.c r.z (l.map zcc), .int .i64 k] ⟨0, []⟩ = some (.tup [.int .i64 (zf3 m k hk), .int .i64 m.regs[k].low, .int .i64 m.regs[k].width, .int .i64 0], ⟨0, []⟩) := by
 have hP := yami m hm h k hk
 have hT := yaiy m hm.b h
 have hL := yalr m hm.b r l hr hl hq (zf3 m k hk) m.regs[k].low m.regs[k].width 0 (Nat.zero_le _)
 have e : decide (((za1 m).length : Int) = (l.length : Int)) = true := decide_eq_true (by omega)
 simp only [zac, zad] at hP hT
 simp only [Int.natCast_zero] at hL
 rw [yaof _ _ (by simp)]
 simp (maxSteps := 1000000) -implicitDefEqProofs only [↓reduceIte, ↓cond_true, ↓cond_false, sr1, sr2, kA, seval, d95, yaag, n95, yal5, e95, zac, zad, hP, hT, hL, e, zai, zak]
theorem yags (m : MMach) (hm : MOk m) (h : zb1 m = 0) (r : Sv) (l : List Int) (x : Int) (hx : inR x 0 ((m.regs.length : Int) - 1) = false) : zaq Tryz.prog (om Tryz.prog) 95 [zac m, .rsl r.a r.c r.z (l.map zcc), .int .i64 x] ⟨0, []⟩ = some (.tup [.int .i64 0, .int .i64 0, .int .i64 0, .int .i64 2], ⟨0, []⟩) := by
 have hP := yaui m hm h x hx
 simp only [zac, zad] at hP
 rw [yaof _ _ (by simp)]
 simp (maxSteps := 1000000) -implicitDefEqProofs only [↓reduceIte, ↓cond_true, ↓cond_false, sr1, sr2, kA, seval, d95, yaag, n95, yal5, e95, zac, zad, hP]
def yauo (m : MMach) (l : List Int) (x : Int) : Int := match m.regs[x.toNat]? with | some r => zim (l.getD (zle (za1 m) (zxo r x.toNat)) 0) r.low.toNat r.width.toNat | none => 0
theorem yabe {m : MMach} {l : List Int} {k : Nat} (hk : k < m.regs.length) (hp : zf3 m k hk < l.length) : yauo m l (k : Int) = zim l[zf3 m k hk] m.regs[k].low.toNat m.regs[k].width.toNat := by
 unfold yauo
 rw [Int.toNat_natCast, List.getElem?_eq_getElem hk]
 show zim (l.getD (zf3 m k hk) 0) _ _ = _
 rw [zcq hp]
def zyx (m : MMach) (l : List Int) (x : Int) : AV := bif inR x 0 ((m.regs.length : Int) - 1) then .tup [.int .u64 (yauo m l x), .int .i64 0] else .tup [.int .u64 0, .int .i64 2]
theorem yamo (m : MMach) (hm : MOk m) (h : zb1 m = 0) (r : Sv) (l : List Int) (hr : SvOk r 1 l.length) (hn : ∀ x ∈ l, 0 ≤ x ∧ x < 18446744073709551616) (hl : l.length = (za1 m).length) (hq : ∀ i, i < l.length → rgOk m l i = true) (x : Int) : zaq Tryz.prog (om Tryz.prog) 50 [zac m, .rsl r.a r.c r.z (l.map zcc), .int .i64 x] ⟨0, []⟩ = some (zyx m l x, ⟨0, []⟩) := by
 unfold zyx
 cases hx : inR x 0 ((m.regs.length : Int) - 1) with
 | false =>
  have hP := yags m hm h r l x hx
  simp only [zac, zad] at hP
  rw [yan8 _ _ (by simp)]
  simp (maxSteps := 1000000) -implicitDefEqProofs only [↓reduceIte, ↓cond_true, ↓cond_false, sr1, sr2, kA, seval, d50, yaza, n50, zac, zad, hP]
 | true =>
  obtain ⟨z0, z1⟩ := zd7 hx
  obtain ⟨k, rfl⟩ : ∃ k : Nat, x = (k : Int) := ⟨x.toNat, by omega⟩
  have hk : k < m.regs.length := by omega
  have hP := yac3 m hm h r l hr hl hq k hk
  obtain ⟨hp, _⟩ := zyu h k hk
  have hp2 : zf3 m k hk < l.length := by omega
  have hi := zl7 (f := zcc) (k := .i64) hr hp2
  have W := regW h k hk
  have w1 := W.low
  have w2 := W.wid
  have w3 := W.top
  obtain ⟨a, ha⟩ : ∃ a : Nat, m.regs[k].low = (a : Int) := ⟨m.regs[k].low.toNat, by omega⟩
  obtain ⟨w, hw⟩ : ∃ w : Nat, m.regs[k].width = (w : Int) := ⟨m.regs[k].width.toNat, by omega⟩
  have hv := hn l[zf3 m k hk] (List.getElem_mem hp2)
  have es : zdp .shr .u64 l[zf3 m k hk] m.regs[k].low = some (.int .u64 (l[zf3 m k hk] / (2 ^ a : Nat))) := by
   unfold zdp
   rw [if_neg (by omega)]
   simp only
   rw [ha, Int.toNat_natCast, show min a IntKind.u64.bits = a by simp only [IntKind.bits]; omega, Int.fdiv_eq_ediv_of_nonneg _ (by exact_mod_cast Nat.zero_le _)]
   simp
  have em : zcb m.regs[k].width = ((2 ^ w - 1 : Nat) : Int) := by rw [hw]; exact zeb (by omega) (by omega)
  have ea : zzo (l[zf3 m k hk] / (2 ^ a : Nat)) ((2 ^ w - 1 : Nat) : Int) = zim l[zf3 m k hk] a w := by
   refine zpf (Int.ediv_nonneg hv.1 (by exact_mod_cast Nat.zero_le _)) ?_ (by omega)
   have := Int.ediv_le_self ((2 ^ a : Nat) : Int) hv.1
   omega
  have er := yabe hk hp2
  rw [ha, hw, Int.toNat_natCast, Int.toNat_natCast] at er
  simp only [zac, zad] at hP
  rw [yan8 _ _ (by simp)]
  simp (maxSteps := 1000000) -implicitDefEqProofs only [↓reduceIte, ↓cond_true, ↓cond_false, sr1, sr2, kA, seval, d50, yaza, n50, zac, zad, hP, hi, zcc, es, zhq, em, zm6, ea, er]
theorem yanp (m : MMach) (hB : Bd m) (hg : zb1 m = 0) (r : Sv) (l : List Int) (hr : SvOk r 1 l.length) (hn : ∀ x ∈ l, 0 ≤ x ∧ x < 18446744073709551616) (hl : l.length = (za1 m).length) (hq : ∀ i, i < l.length → rgOk m l i = true) : ∀ i, i ≤ l.length → lim (some []) 0 (blk 0 (om Tryz.prog ⟨96, none⟩ 0 (.loop (lpb Tryz.f96 0)) ⟨⟨50, [(1, .rsl r.a r.c r.z (l.map zcc)), (3, .ptr 0 0), (8, .sl 1 0 (za1 m).length 1), (9, .int .i64 i)]⟩, [], mtI m⟩)) = some (.normal, ⟨⟨50, []⟩, [], ⟨0, []⟩⟩) := by
 have ht := zfd hB
 have hu := hB.r
 have en : ((za1 m).length : Int) = (l.length : Int) := by omega
 refine zb8 ?_ (fun i h ih => ?_) <;> rw [zae]
 ·simp (maxSteps := 1000000) -implicitDefEqProofs only [↓reduceIte, ↓cond_true, ↓cond_false, sr1, sr2, kA, seval, d96, yaah, n96, e96, en, zai, zak]
 ·have hi2 : i < (za1 m).length := by omega
  have hx := zl7 (f := zcc) (k := .i64) hr h
  have hm := yab4 (List.getElem_mem hi2)
  have eO : okB (m.regs[(za1 m)[i].toNat]'hm.2).width l[i] = true := by
   have := hq i h
   unfold rgOk at this
   rw [zcq h, zcq hi2, zcf hm.2] at this
   exact this
  have W := regW hg _ hm.2
  have w1 := W.low
  have w2 := W.wid
  have w3 := W.top
  obtain ⟨w, hw⟩ : ∃ w : Nat, (m.regs[(za1 m)[i].toNat]'hm.2).width = (w : Int) := ⟨(m.regs[(za1 m)[i].toNat]'hm.2).width.toNat, by omega⟩
  have hv := hn l[i] (List.getElem_mem h)
  have hb := zvc w (by omega) l[i] hv.1 hv.2
  have eb : decide (l[i] / (2 ^ w : Nat) = 0) = true := by
   unfold okB at eO
   rw [Bool.and_eq_true, decide_eq_true_iff, hw, zeb (by omega) (by omega)] at eO
   have p := Nat.two_pow_pos w
   refine decide_eq_true (Int.ediv_eq_zero_of_lt hv.1 ?_)
   omega
  rw [eb, ← hw] at hb
  simp (maxSteps := 1000000) -implicitDefEqProofs only [↓reduceIte, ↓cond_true, ↓cond_false, sr1, sr2, kA, seval, d96, yaah, n96, e96, dlt_t hi2, wi_nat (show i < 2 ^ 62 by omega), Go.Ab.ix_sl hi2, zkq hi2, ix_z zab hm.1 hm.2, zei, hx, zcc, hb, ih, zai, zak]
theorem yad2 (m : MMach) (hm : NOk8 m) (h : zb1 m = 0) (r : Sv) (l : List Int) (hr : SvOk r 1 l.length) (hn : ∀ x ∈ l, 0 ≤ x ∧ x < 18446744073709551616) (hl : l.length = (za1 m).length) (hq : ∀ i, i < l.length → rgOk m l i = true) (x : Int) : zaq Tryz.prog (om Tryz.prog) 96 [zac m, .rsl r.a r.c r.z (l.map zcc), .int .i64 x] ⟨0, []⟩ = some (.int .i64 (bif inR x 0 ((m.regs.length : Int) - 1) then 0 else 2), ⟨0, []⟩) := by
 have hC := zhw m hm
 rw [zyk m hm, h] at hC
 have hT := zuu m hm.b h
 have wl := zas hm.b.r
 have hL := yanp m hm.b h r l hr hn hl hq 0 (Nat.zero_le _)
 have e : decide (((za1 m).length : Int) = (l.length : Int)) = true := decide_eq_true (by omega)
 simp only [zac, zad] at hC hT
 simp only [Int.natCast_zero] at hL
 rw [yax8 _ _ (by simp)]
 cases hx : inR x 0 ((m.regs.length : Int) - 1) with
 | false => simp (maxSteps := 1000000) -implicitDefEqProofs only [↓reduceIte, ↓cond_true, ↓cond_false, sr1, sr2, kA, seval, d96, yaah, n96, e96, zac, zad, hC, za3, wl, hx]
 | true => simp (maxSteps := 1000000) -implicitDefEqProofs only [↓reduceIte, ↓cond_true, ↓cond_false, sr1, sr2, kA, seval, d96, yaah, n96, e96, zac, zad, hC, za3, wl, hx, hT, hL, e, zai, zak]
theorem yauj (l : List Int) (hl : l.length < 1000000) (rg : MReg) (t : Int) (p : Nat) (hp : p < l.length) (hne : ∀ i (hi : i < l.length), i < p → l[i] ≠ t) (ht : l[p] = t) : ∀ i, i ≤ p → lim (some []) 0 (blk 0 (om Tryz.prog ⟨97, none⟩ 0 (.loop (lpb Tryz.f97 0)) ⟨⟨40, [(7, .ptr 0 0), (8, .int .i64 t), (9, .sl 1 0 l.length 1), (10, .int .i64 i)]⟩, [], ⟨2, [some (.cells 137 (regC rg)), some (.cells 3 (l.map zdt))]⟩⟩)) = some (.ret, ⟨⟨40, [(4, .int .i64 p), (5, .int .i64 rg.low), (6, .int .i64 rg.width)]⟩, [], ⟨0, []⟩⟩) := by
 refine zb8 ?_ (fun i h ih => ?_) <;> rw [zae]
 ·simp (maxSteps := 1000000) -implicitDefEqProofs only [↓reduceIte, ↓cond_true, ↓cond_false, sr1, sr2, kA, seval, d97, yaai, n97, e97, dlt_t hp, Go.Ab.ix_sl hp, zkq hp, ht, zai, zak]
 ·have hi : i < l.length := by omega
  have e : decide (l[i] = t) = false := decide_eq_false (hne i hi h)
  simp (maxSteps := 1000000) -implicitDefEqProofs only [↓reduceIte, ↓cond_true, ↓cond_false, sr1, sr2, kA, seval, d97, yaai, n97, e97, dlt_t hi, wi_nat (show i < 2 ^ 62 by omega), Go.Ab.ix_sl hi, zkq hi, e, ih, zai, zak]
theorem yahp (m : MMach) (hB : Bd m) (h : zb1 m = 0) (k : Nat) (hk : k < m.regs.length) : zaq Tryz.prog (om Tryz.prog) 97 [zac m, .int .i64 k] ⟨0, []⟩ = some (.tup [.int .i64 (zf3 m k hk), .int .i64 m.regs[k].low, .int .i64 m.regs[k].width], ⟨0, []⟩) := by
 have hT := zuu m hB h
 obtain ⟨hp, hat⟩ := zyu h k hk
 have ha := zuv m
 have ht := zfd hB
 have hr := hB.r
 have hL := yauj (za1 m) (by omega) m.regs[k] (zxo m.regs[k] k) (zf3 m k hk) hp (fun i hi hlt e => by
  have := List.pairwise_iff_getElem.1 ha i _ hi hp hlt
  omega) hat 0 (Nat.zero_le _)
 simp only [zac, zad] at hT
 simp only [Int.natCast_zero, regC] at hL
 rw [yax9 _ _ (by simp)]
 cases ho : decide (m.regs[k].of_ = -1) with
 | true =>
  have e2 : zxo m.regs[k] k = (k : Int) := by unfold zxo; rw [ho]; rfl
  rw [e2] at hL
  simp (maxSteps := 1000000) -implicitDefEqProofs only [↓reduceIte, ↓cond_true, ↓cond_false, sr1, sr2, kA, seval, d97, yaai, n97, e97, zac, zad, ix_sl zab hk, zei, ho, hT, hL, zai, zak]
 | false =>
  have e2 : zxo m.regs[k] k = m.regs[k].of_ := by unfold zxo; rw [ho]; rfl
  rw [e2] at hL
  simp (maxSteps := 1000000) -implicitDefEqProofs only [↓reduceIte, ↓cond_true, ↓cond_false, sr1, sr2, kA, seval, d97, yaai, n97, e97, zac, zad, ix_sl zab hk, zei, ho, hT, hL, zai, zak]
theorem yawn (x : Int) (h0 : 0 ≤ x) (h1 : x < 18446744073709551616) (a w : Nat) (hw : a + w ≤ 64) : ∀ i, i ≤ w → lim (some [7]) 0 (blk 0 (om Tryz.prog ⟨98, none⟩ 0 (.loop (lpb Tryz.f98 0)) ⟨⟨27, [(0, .int .u64 x), (1, .int .i64 a), (2, .int .i64 w), (7, .int .u64 (zim x a i)), (8, .int .u64 (IntKind.u64.wrap (2 ^ i : Nat))), (9, .int .i64 i)]⟩, [], ⟨0, []⟩⟩)) = some (.normal, ⟨⟨27, [(7, .int .u64 (zim x a w))]⟩, [], ⟨0, []⟩⟩) := by
 refine zb8 ?_ (fun i h ih => ?_) <;> rw [zae]
 ·simp (maxSteps := 1000000) -implicitDefEqProofs only [↓reduceIte, ↓cond_true, ↓cond_false, sr1, sr2, kA, seval, d98, n98, e98, List.map_nil]
 ·have hb := zs8 (a + i) (by omega) x h0 h1
  have ea := zrc (a := a) (b := i) (by omega)
  have p2 : 2 ^ (i + 1) ≤ 2 ^ 64 := Nat.pow_le_pow_right (by decide) (by omega)
  have p3 : 2 ^ (i + 1) = 2 ^ i + 2 ^ i := by rw [Nat.pow_succ]; omega
  have p1 := Nat.two_pow_pos i
  have ew : IntKind.u64.wrap (2 ^ i : Nat) = ((2 ^ i : Nat) : Int) := zh5 _ (by omega)
  have e2 : IntKind.u64.wrap (2 * ((2 ^ i : Nat) : Int)) = IntKind.u64.wrap (2 ^ (i + 1) : Nat) := by congr 1; rw [p3]; omega
  have st := yace h0 a i
  have lt := yakb x a i
  rw [ew]
  cases hc : decide (zu3 x (a + i) = 1) with
  | true =>
   have q := of_decide_eq_true hc
   rw [q, Int.one_mul] at st
   have e1 : IntKind.u64.wrap (zim x a i + ((2 ^ i : Nat) : Int)) = zim x a (i + 1) := by
    rw [st, ze0 (by omega) (by simp only [Nat.reducePow] at p2; omega)]
   simp (maxSteps := 1000000) -implicitDefEqProofs only [↓reduceIte, ↓cond_true, ↓cond_false, sr1, sr2, kA, seval, d98, n98, e98, dlt_t h, wi_nat (show i < 2 ^ 62 by omega), ea, hb, hc, e1, e2, ih]
  | false =>
   have q := of_decide_eq_false hc
   have q0 : zu3 x (a + i) = 0 := by rcases yaq4 x (a + i) with h | h <;> omega
   rw [q0, Int.zero_mul, Int.add_zero] at st
   rw [st] at ih
   simp (maxSteps := 1000000) -implicitDefEqProofs only [↓reduceIte, ↓cond_true, ↓cond_false, sr1, sr2, kA, seval, d98, n98, e98, dlt_t h, wi_nat (show i < 2 ^ 62 by omega), ea, hb, hc, e2, ih]
theorem yakc (x : Int) (h0 : 0 ≤ x) (h1 : x < 18446744073709551616) (a w : Nat) (hw : a + w ≤ 64) : zaq Tryz.prog (om Tryz.prog) 98 [.int .u64 x, .int .i64 a, .int .i64 w] ⟨0, []⟩ = some (.int .u64 (zim x a w), ⟨0, []⟩) := by
 have hL := yawn x h0 h1 a w hw 0 (Nat.zero_le _)
 have e0 : zim x a 0 = 0 := by unfold zim; rw [Nat.pow_zero, Int.natCast_one, Int.emod_one]
 have e1 : IntKind.u64.wrap (2 ^ 0 : Nat) = 1 := by decide
 rw [e0, e1] at hL
 simp only [Int.natCast_zero] at hL
 rw [yaya _ _ (by simp)]
 simp (maxSteps := 1000000) -implicitDefEqProofs only [↓reduceIte, ↓cond_true, ↓cond_false, sr1, sr2, kA, seval, d98, n98, e98, hL]
theorem yahx (m : MMach) (hm : NOk8 m) (h : zb1 m = 0) (r : Sv) (l : List Int) (hr : SvOk r 1 l.length) (hn : ∀ x ∈ l, 0 ≤ x ∧ x < 18446744073709551616) (hl : l.length = (za1 m).length) (hq : ∀ i, i < l.length → rgOk m l i = true) (x : Int) : zaq Tryz.prog (om Tryz.prog) 51 [zac m, .rsl r.a r.c r.z (l.map zcc), .int .i64 x] ⟨0, []⟩ = some (zyx m l x, ⟨0, []⟩) := by
 have hV := yad2 m hm h r l hr hn hl hq x
 unfold zyx
 cases hx : inR x 0 ((m.regs.length : Int) - 1) with
 | false =>
  rw [hx] at hV
  simp only [zac, zad] at hV
  rw [yan9 _ _ (by simp)]
  simp (maxSteps := 1000000) -implicitDefEqProofs only [↓reduceIte, ↓cond_true, ↓cond_false, sr1, sr2, kA, seval, d51, n51, zac, zad, hV]
 | true =>
  obtain ⟨z0, z1⟩ := zd7 hx
  obtain ⟨k, rfl⟩ : ∃ k : Nat, x = (k : Int) := ⟨x.toNat, by omega⟩
  have hk : k < m.regs.length := by omega
  have hP := yahp m hm.b h k hk
  obtain ⟨hp, _⟩ := zyu h k hk
  have hp2 : zf3 m k hk < l.length := by omega
  have hi := zl7 (f := zcc) (k := .i64) hr hp2
  have W := regW h k hk
  have w1 := W.low
  have w2 := W.wid
  have w3 := W.top
  obtain ⟨a, ha⟩ : ∃ a : Nat, m.regs[k].low = (a : Int) := ⟨m.regs[k].low.toNat, by omega⟩
  obtain ⟨w, hw⟩ : ∃ w : Nat, m.regs[k].width = (w : Int) := ⟨m.regs[k].width.toNat, by omega⟩
  have hv := hn l[zf3 m k hk] (List.getElem_mem hp2)
  have hb := yakc l[zf3 m k hk] hv.1 hv.2 a w (by omega)
  have er := yabe hk hp2
  rw [ha, hw, Int.toNat_natCast, Int.toNat_natCast] at er
  rw [← ha, ← hw] at hb
  rw [hx] at hV
  simp only [zac, zad] at hP hV
  rw [yan9 _ _ (by simp)]
  simp (maxSteps := 1000000) -implicitDefEqProofs only [↓reduceIte, ↓cond_true, ↓cond_false, sr1, sr2, kA, seval, d51, n51, zac, zad, hV, hP, hi, zcc, hb, er]
def zeo : List MCell → Int → Int
 | [], _ => 0
 | c :: l, t => bif decide (c.at_ = t) then c.byte else zeo l t
theorem yacf {l : List MCell} {i : Nat} {t : Int} (h : i < l.length) : zeo (l.drop i) t = bif decide (l[i].at_ = t) then l[i].byte else zeo (l.drop (i + 1)) t := by
 rw [List.drop_eq_getElem_cons h]; rfl
theorem zvl : ∀ {l : List MCell} {t : Int}, zeo l t = 0 ∨ ∃ c ∈ l, zeo l t = c.byte
 | [], _ => .inl rfl
 | c :: l, t => by
  simp only [zeo]
  cases decide (c.at_ = t) with
  | true => exact .inr ⟨c, by simp, rfl⟩
  | false =>
   rcases zvl (l := l) (t := t) with h | ⟨d, hd, h⟩
   ·exact .inl h
   ·exact .inr ⟨d, by simp [hd], h⟩
def BOk (l : List MCell) : Prop := ∀ c ∈ l, 0 ≤ c.byte ∧ c.byte < 256
theorem yake {l : List MCell} (h : BOk l) (t : Int) : 0 ≤ zeo l t ∧ zeo l t < 256 := by
 rcases zvl (l := l) (t := t) with e | ⟨c, hc, e⟩
 ·omega
 ·have := h c hc; omega
def ats (l : List MCell) : List Int := l.map MCell.at_
theorem zr3 {l : List MCell} {i : Nat} (h : i < l.length) : (ats l)[i]'(by simpa [ats] using h) = l[i].at_ := by simp [ats]
theorem zil {l : List MCell} : (ats l).length = l.length := by simp [ats]
theorem zzw : ∀ {l : List MCell} {p : Nat} (hp : p < l.length), (∀ i (hi : i < l.length), i < p → l[i].at_ ≠ l[p].at_) → zeo l l[p].at_ = l[p].byte
 | c :: l, 0, _, _ => by simp [zeo]
 | c :: l, p + 1, hp, h => by
  have h0 := h 0 (by simp) (by omega)
  simp only [List.getElem_cons_zero, List.getElem_cons_succ] at h0 ⊢
  simp only [zeo, decide_eq_false h0, cond_false]
  refine zzw (by simpa using hp) (fun i hi hlt => ?_)
  have := h (i + 1) (by simpa using hi) (by omega)
  simpa using this
theorem zs9 : ∀ {l : List MCell} {t : Int}, (∀ c ∈ l, c.at_ ≠ t) → zeo l t = 0
 | [], _, _ => rfl
 | c :: l, t, h => by
  simp only [zeo, decide_eq_false (h c (by simp)), cond_false]
  exact zs9 fun d hd => h d (by simp [hd])
def zkk (l : List MCell) (t : Int) : Bool := match l[zle (ats l) t]? with | some c => decide (c.at_ = t) | none => false
theorem yafv {l : List MCell} (ha : Asc (ats l)) {t : Int} (h : zkk l t = true) : ∃ hp : zle (ats l) t < l.length, l[zle (ats l) t].byte = zeo l t := by
 unfold zkk at h
 by_cases hp : zle (ats l) t < l.length
 ·rw [List.getElem?_eq_getElem hp] at h
  have e := of_decide_eq_true h
  refine ⟨hp, ?_⟩
  have := zzw hp (fun i hi hlt => by
   have := List.pairwise_iff_getElem.1 ha i (zle (ats l) t) (by rw [zil]; exact hi) (by rw [zil]; exact hp) hlt
   rw [zr3 hi, zr3 hp] at this
   omega)
  rw [e] at this
  exact this.symm
 ·rw [List.getElem?_eq_none (by omega)] at h; cases h
theorem yak1 {l : List MCell} (ha : Asc (ats l)) {t : Int} (h : zkk l t = false) : zeo l t = 0 := by
 refine zs9 fun c hc e => ?_
 obtain ⟨p, hp, rfl⟩ := List.getElem_of_mem hc
 have hp' : p < (ats l).length := by rw [zil]; exact hp
 have q : zle (ats l) (ats l)[p] = p := yapm ha hp'
 rw [zr3 hp, e] at q
 unfold zkk at h
 rw [q, List.getElem?_eq_getElem hp] at h
 exact of_decide_eq_false h e
theorem zzp : ∀ {l : List Int}, (∀ j (h : j + 1 < l.length), l[j] < l[j + 1]) → Asc l
 | [], _ => .nil
 | x :: l, h => by
  have hl : Asc l := zzp fun j hj => by have := h (j + 1) (by simpa using hj); simpa using this
  refine .cons (fun y hy => ?_) hl
  obtain ⟨k, hk, rfl⟩ := List.getElem_of_mem hy
  have h0 := h 0 (by simp; omega)
  simp only [List.getElem_cons_zero, List.getElem_cons_succ] at h0
  by_cases e : k = 0
  ·subst e; exact h0
  ·have := List.pairwise_iff_getElem.1 hl 0 k (by omega) hk (by omega)
   omega
theorem zvm {l : List MCell} (h : zh8 l = true) : Asc (ats l) := by
 unfold zh8 at h
 rw [Bool.and_eq_true, zbe] at h
 refine zzp fun j hj => ?_
 rw [zil] at hj
 have := h.2 (j + 1) (Nat.zero_le _) hj
 simp only [zxl, List.getElem?_eq_getElem hj, List.getElem?_eq_getElem (show j < l.length by omega)] at this
 rw [zr3 hj, zr3 (show j < l.length by omega)]
 simp at this
 omega
def zsh (b : Nat → Int) : Nat → Int
 | 0 => 0
 | i + 1 => zsh b i + b i * (2 ^ (8 * i) : Nat)
def hiS (b : Nat → Int) : Nat → Nat → Int
 | _, 0 => 0
 | i, d + 1 => 256 * hiS b (i + 1) d + b i
theorem pow8 (i : Nat) : 2 ^ (8 * (i + 1)) = 256 * 2 ^ (8 * i) := by
 rw [Nat.mul_add, Nat.pow_add]; omega
theorem yapl (b : Nat → Int) : ∀ d i, zsh b i + hiS b i d * (2 ^ (8 * i) : Nat) = zsh b (i + d)
 | 0, i => by simp [hiS]
 | d + 1, i => by
  have ih := yapl b d (i + 1)
  rw [show i + (d + 1) = i + 1 + d by omega, ← ih]
  simp only [hiS, zsh]
  rw [pow8, Int.natCast_mul, Int.add_mul, ← Int.mul_assoc, Int.mul_comm 256 (hiS b (i + 1) d)]
  simp only [Int.cast_ofNat_Int]
  omega
theorem yatq (b : Nat → Int) (n : Nat) : zsh b n = hiS b 0 n := by
 have := yapl b n 0
 simp only [zsh, Nat.mul_zero, Nat.pow_zero, Int.natCast_one, Int.mul_one, Int.zero_add, Nat.zero_add] at this
 exact this.symm
theorem zyj {b : Nat → Int} (hb : ∀ i, 0 ≤ b i ∧ b i < 256) : ∀ n, 0 ≤ zsh b n ∧ zsh b n < (2 ^ (8 * n) : Nat)
 | 0 => by simp [zsh]
 | n + 1 => by
  have ih := zyj hb n
  have := hb n
  rw [pow8]
  simp only [zsh]
  have p := Nat.two_pow_pos (8 * n)
  generalize 2 ^ (8 * n) = q at *
  have h1 : b n * (q : Int) ≤ 255 * (q : Int) := Int.mul_le_mul_of_nonneg_right (by omega) (by omega)
  have h2 : 0 ≤ b n * (q : Int) := Int.mul_nonneg (by omega) (by omega)
  rw [Int.natCast_mul]
  simp only [Int.cast_ofNat_Int]
  omega
theorem yaf3 {b : Nat → Int} (hb : ∀ i, 0 ≤ b i ∧ b i < 256) : ∀ d i, 0 ≤ hiS b i d ∧ hiS b i d < (2 ^ (8 * d) : Nat)
 | 0, i => by simp [hiS]
 | d + 1, i => by
  have ih := yaf3 hb d (i + 1)
  have := hb i
  rw [pow8]
  simp only [hiS]
  generalize 2 ^ (8 * d) = q at *
  rw [Int.natCast_mul]
  simp only [Int.cast_ofNat_Int]
  omega
theorem yauh {x y : Int} {k : Nat} (h0 : 0 ≤ x) (h1 : x < (2 ^ k : Nat)) (h2 : 0 ≤ y) (h3 : x + y * (2 ^ k : Nat) < 18446744073709551616) : orI x (y * (2 ^ k : Nat)) = x + y * (2 ^ k : Nat) := by
 obtain ⟨a, rfl⟩ := Int.eq_ofNat_of_zero_le h0
 obtain ⟨c, rfl⟩ := Int.eq_ofNat_of_zero_le h2
 have h1' : a < 2 ^ k := by exact_mod_cast h1
 have e := Nat.two_pow_add_eq_or_of_lt h1' c
 have h3' : a + c * 2 ^ k < 18446744073709551616 := Int.ofNat_lt.1 (by rw [Int.natCast_add, Int.natCast_mul]; exact h3)
 have ha : a < 2 ^ 64 := by omega
 have hc : c * 2 ^ k < 2 ^ 64 := by omega
 unfold orI
 rw [← Int.natCast_mul, ← Int.natCast_add, BitVec.toNat_or, BitVec.ofInt_natCast, BitVec.ofInt_natCast, BitVec.toNat_ofNat, BitVec.toNat_ofNat, Nat.mod_eq_of_lt ha, Nat.mod_eq_of_lt hc]
 have : a ||| c * 2 ^ k = a + c * 2 ^ k := by
  rw [Nat.or_comm, Nat.mul_comm c, ← e]; omega
 rw [this, zh5 _ h3']
end Go.Proofs.YtcfcphhamfhfcaaGreatDoor.v
