/- What the law's proof leans on, part 29. Conditions: in each statement. -/
import Derived.Test.YtcfcphhamfhfcaaGreatDoorQ9
set_option linter.all false
namespace Go.Proofs.YtcfcphhamfhfcaaGreatDoor.v
open Go Go.Ab
set_option maxRecDepth 100000
set_option maxHeartbeats 4000000
set_option linter.unusedSimpArgs false
set_option linter.unusedVariables false
theorem agU : zd8 Tryz.prog 30 = some false := by kernel_rfl
theorem szU : zbl Tryz.prog 30 = some 1 := by kernel_rfl
theorem agB8 : zd8 Tryz.prog 5 = some false := by kernel_rfl
theorem szB8 : zbl Tryz.prog 5 = some 1 := by kernel_rfl
theorem zoq : zd8 Tryz.prog 57 = some true := by kernel_rfl
theorem zo8 : zbl Tryz.prog 57 = some 2 := by kernel_rfl
section
variable {P : Program}
theorem zbn {κ : Nat → Nat × Nat} {H : Heap} {f : Nat} {l : List AV} : zl6 P κ H (f + 1) (.agg l) = (zkc P κ H f l).map .agg := by simp [zl6]
def yacz (P : Program) (κ : Nat → Nat × Nat) (H : Heap) (f b n : Nat) (x : Option Blk) : Option AV := match x with
 | some (.cells t c) => match zd8 P t, zbl P t, zkc P κ H f ((c.drop (0 * 2)).take (n * 2)) with
  | some g, some s, some l => if s = 2 && decide (0 < 2) && decide ((0 + n) * 2 ≤ c.length) && (g || (2 : Nat) == 1 && zby l) then some (.rsl (some ⟨(κ b).1, 0 * 2, none⟩) ((κ b).2 - 0) 2 (if g then zlq 2 n l else l)) else none
  | _, _, _ => none
 | _ => none
@[congr] theorem yati {κ : Nat → Nat × Nat} {H : Heap} {f b n : Nat} {x x' : Option Blk} (h : x = x') : yacz P κ H f b n x = yacz P κ H f b n x' := by rw [h]
theorem zbo {κ : Nat → Nat × Nat} {H : Heap} {f b n : Nat} : zl6 P κ H (f + 1) (.sl b 0 n 2) = yacz P κ H f b n (H.get b) := by
 simp only [zl6, yacz]
 cases H.get b with
 | none => rfl
 | some x => cases x <;> rfl
theorem za2 {κ : Nat → Nat × Nat} {H : Heap} {f b n t : Nat} {c : List AV} (ha : zd8 P t = some true) (hs : zbl P t = some 2) (hl : (decide (n * 2 = c.length) && AV.rfL c) = true) :
  yacz P κ H (f + 1) b n (some (.cells t c)) = some (.rsl (some ⟨(κ b).1, 0, none⟩) (κ b).2 2 (zlq 2 n c)) := by
 simp only [Bool.and_eq_true, decide_eq_true_eq] at hl
 have e0 : (c.drop (0 * 2)).take (n * 2) = c := by rw [hl.1]; simp
 have e : zkc P κ H (f + 1) c = some c := by
  have := hl.2
  revert this
  generalize c = l
  intro h
  cases l with
  | nil => simp [zkc]
  | cons v l => rw [inlL_cons, h]; rfl
 simp only [yacz, ha, hs, e0, e]
 simp [hl.1]
end
theorem zb5 {l : List Int} : AV.rfL (l.map zcc) = true := by
 induction l with
 | nil => rfl
 | cons x l ih => rw [List.map_cons, AV.rfL, ih]; rfl
theorem yabk {l : List Int} : AV.rfL (l.map u8V) = true := by
 induction l with
 | nil => rfl
 | cons x l ih => rw [List.map_cons, AV.rfL, ih]; rfl
theorem za8 : ∀ {l : List MCell}, AV.rfL (zcj l) = true
 | [] => rfl
 | c :: l => by rw [zcd, AV.rfL, AV.rfL, za8]; rfl
theorem zci {l : List Int} {f : Int → AV} : List.take l.length (l.map f) = l.map f := by
 have := List.take_length (l := l.map f); rwa [List.length_map] at this
theorem zb7 {l : List MCell} : List.take (l.length * 2) (zcj l) = zcj l := by
 have := List.take_length (l := zcj l); rwa [zaw] at this
theorem zb4 {c z : Nat} {l : List AV} : AV.nro (.rsl none c z l) = true := by simp [AV.nro]
theorem zc3 {b i n z : Nat} : AV.nro (.sl b i n z) = true := by simp [AV.nro]
theorem zb3 {l : List AV} : AV.nro (.agg l) = AV.nroL l := by simp [AV.nro]
theorem zbb {t : TypeId} {c : List AV} : Blk.nro (.cells t c) = AV.nroL c := rfl
theorem zb0 {n : Nat} {x : Blk} {l : List (Option Blk)} : Heap.nro ⟨n, some x :: l⟩ = (x.nro && Heap.nro ⟨n, l⟩) := rfl
theorem yaa2 {α : Type} {f : α → AV} {l : List α} (h : ∀ x, (f x).nro = true) : AV.nroL (l.map f) = true := by
 induction l with
 | nil => rfl
 | cons x l ih => rw [List.map_cons, nroL_cons, h, ih]; rfl
theorem zbp {l : List Int} : AV.nroL (l.map zcc) = true := yaa2 fun _ => by simp [zcc, AV.nro]
theorem zb2 {l : List Int} : AV.nroL (l.map u8V) = true := yaa2 fun _ => by simp [u8V, AV.nro]
theorem zay : ∀ {l : List MCell}, AV.nroL (zcj l) = true
 | [] => rfl
 | c :: l => by rw [zcd, nroL_cons, nroL_cons, zay]; simp [AV.nro]
def upR (l : List Int) (i : Nat) : List Int := List.replicate i 77 ++ l.drop i
theorem yajc {l : List Int} {i : Nat} (h : i ≤ l.length) : (upR l i).length = l.length := by simp [upR]; omega
theorem yajd {l : List Int} {i : Nat} (h : i < l.length) : ((upR l i).map zcc).set i (.int .u64 77) = (upR l (i + 1)).map zcc := by
 have e : upR l i = List.replicate i 77 ++ l[i] :: l.drop (i + 1) := by unfold upR; rw [List.drop_eq_getElem_cons h]
 have e2 : upR l (i + 1) = List.replicate i 77 ++ 77 :: l.drop (i + 1) := by unfold upR; rw [List.replicate_succ', List.append_assoc]; rfl
 rw [e, e2, List.map_append, List.map_append, List.set_append_right _ _ (by simp), List.length_map, List.length_replicate, Nat.sub_self]
 rfl
def upM (l : List MCell) (i : Nat) : List MCell := (l.take i).map (fun c => ⟨c.at_, 77⟩) ++ l.drop i
theorem yaja {l : List MCell} {i : Nat} (h : i ≤ l.length) : (upM l i).length = l.length := by simp [upM]; omega
theorem zpo : ∀ {a b : List MCell}, zcj (a ++ b) = zcj a ++ zcj b
 | [], b => rfl
 | c :: a, b => by rw [List.cons_append, zcd, zpo, zcd]; rfl
theorem yajb {l : List MCell} {i : Nat} (h : i < l.length) : (zcj (upM l i)).set (i * 2 + 1) (.int .u8 77) = zcj (upM l (i + 1)) := by
 have e : upM l i = (l.take i).map (fun c => ⟨c.at_, 77⟩) ++ l[i] :: l.drop (i + 1) := by unfold upM; rw [List.drop_eq_getElem_cons h]
 have e2 : upM l (i + 1) = (l.take i).map (fun c => ⟨c.at_, 77⟩) ++ ⟨l[i].at_, 77⟩ :: l.drop (i + 1) := by
  unfold upM; rw [List.take_succ_eq_append_getElem h, List.map_append, List.append_assoc]; rfl
 have hl : (zcj ((l.take i).map (fun c => (⟨c.at_, 77⟩ : MCell)))).length = i * 2 := by rw [zaw, List.length_map, List.length_take, Nat.min_eq_left (by omega)]
 rw [e, e2, zpo, zpo, List.set_append_right _ _ (by rw [hl]; omega), hl, zcd, zcd]
 simp
noncomputable def ztf : Code := .seq (.seq (za9 Tryz.f3 16) (.block 0 (.loop (lpb Tryz.f3 0)))) (.seq (.seq (za9 Tryz.f3 20) (.block 2 (.loop (lpb Tryz.f3 1)))) (.seq (za9 Tryz.f3 24) .ret))
theorem zbd (s : MState) : zy3 s s = true := yaic.2 rfl
theorem ya46 (r v : Sv) (rl : List Int) (ml : List MCell) (pc cy : Int) (h1 : rl.length < 1000000) : ∀ i, i ≤ rl.length → lim (some [8, 15, 32, 33]) 0 (blk 0 (om Tryz.prog ⟨3, none⟩ 0 (.loop (lpb Tryz.f3 0)) ⟨⟨198, [(8, .ptr 0 0), (15, .ptr 1 0), (32, .ptr 2 0), (33, .bool true), (34, .int .i64 i)]⟩, [], ⟨7, [some (.cells 32 [.rsl r.a r.c r.z (rl.map zcc), .rsl v.a v.c v.z (ml.map za0), .int .u64 pc, .int .i64 cy]), some (.cells 32 [.sl 3 0 rl.length 1, .sl 4 0 ml.length 2, .int .u64 pc, .int .i64 cy]), some (.cells 32 [.sl 5 0 rl.length 1, .sl 6 0 ml.length 2, .int .u64 pc, .int .i64 cy]), some (.cells 30 ((rl).map zcc)), some (.cells 57 (zcj (ml))), some (.cells 30 ((upR rl i).map zcc)), some (.cells 57 (zcj (ml)))]⟩⟩)) = some (.normal, ⟨⟨198, [(8, .ptr 0 0), (15, .ptr 1 0), (32, .ptr 2 0), (33, .bool true)]⟩, [], ⟨7, [some (.cells 32 [.rsl r.a r.c r.z (rl.map zcc), .rsl v.a v.c v.z (ml.map za0), .int .u64 pc, .int .i64 cy]), some (.cells 32 [.sl 3 0 rl.length 1, .sl 4 0 ml.length 2, .int .u64 pc, .int .i64 cy]), some (.cells 32 [.sl 5 0 rl.length 1, .sl 6 0 ml.length 2, .int .u64 pc, .int .i64 cy]), some (.cells 30 ((rl).map zcc)), some (.cells 57 (zcj (ml))), some (.cells 30 ((upR rl rl.length).map zcc)), some (.cells 57 (zcj (ml)))]⟩⟩) := by
 refine zb8 ?_ (fun i h ih => ?_) <;> rw [zae]
 ·simp (maxSteps := 1000000) -implicitDefEqProofs only [↓reduceIte, ↓cond_true, ↓cond_false, sr1, sr2, kA, seval, d3, zh9, n3, zic, zid, zie, e3, zan, zat, zaj, zam]
 ·have hl := yajc (show i ≤ rl.length by omega)
  have hle : i + 1 ≤ rl.length := h
  simp (maxSteps := 1000000) -implicitDefEqProofs only [↓reduceIte, ↓cond_true, ↓cond_false, sr1, sr2, kA, seval, d3, zh9, n3, zic, zid, zie, e3, dlt_t h, wi_nat (show i < 2 ^ 62 by omega), Go.Ab.ix_sl h, sr_cons, sr_nil, yajd h, hl, hle, ih, zan, zat, zaj, zam]
theorem ya42 (r v : Sv) (rl : List Int) (ml : List MCell) (pc cy : Int) (h2 : ml.length < 1000000) : ∀ i, i ≤ ml.length → lim (some [8, 15, 33]) 0 (blk 2 (om Tryz.prog ⟨3, none⟩ 0 (.loop (lpb Tryz.f3 1)) ⟨⟨198, [(8, .ptr 0 0), (15, .ptr 1 0), (32, .ptr 2 0), (33, .bool true), (35, .int .i64 i)]⟩, [], ⟨7, [some (.cells 32 [.rsl r.a r.c r.z (rl.map zcc), .rsl v.a v.c v.z (ml.map za0), .int .u64 pc, .int .i64 cy]), some (.cells 32 [.sl 3 0 rl.length 1, .sl 4 0 ml.length 2, .int .u64 pc, .int .i64 cy]), some (.cells 32 [.sl 5 0 rl.length 1, .sl 6 0 ml.length 2, .int .u64 pc, .int .i64 cy]), some (.cells 30 ((rl).map zcc)), some (.cells 57 (zcj (ml))), some (.cells 30 ((upR rl rl.length).map zcc)), some (.cells 57 (zcj (upM ml i)))]⟩⟩)) = some (.normal, ⟨⟨198, [(8, .ptr 0 0), (15, .ptr 1 0), (33, .bool true)]⟩, [], ⟨4, [some (.cells 32 [.rsl r.a r.c r.z (rl.map zcc), .rsl v.a v.c v.z (ml.map za0), .int .u64 pc, .int .i64 cy]), some (.cells 32 [.sl 2 0 rl.length 1, .sl 3 0 ml.length 2, .int .u64 pc, .int .i64 cy]), some (.cells 30 ((rl).map zcc)), some (.cells 57 (zcj (ml)))]⟩⟩) := by
 refine zb8 ?_ (fun i h ih => ?_) <;> rw [zae]
 ·simp (maxSteps := 1000000) -implicitDefEqProofs only [↓reduceIte, ↓cond_true, ↓cond_false, sr1, sr2, kA, seval, d3, zh9, n3, zic, zid, zie, e3, zan, zat, zaj, zam]
 ·have hl := yaja (show i ≤ ml.length by omega)
  have hle : i * 2 + 1 + 1 ≤ ml.length * 2 := by omega
  simp (maxSteps := 1000000) -implicitDefEqProofs only [↓reduceIte, ↓cond_true, ↓cond_false, sr1, sr2, kA, seval, d3, zh9, n3, zic, zid, zie, e3, dlt_t h, wi_nat (show i < 2 ^ 62 by omega), Go.Ab.ix_sl h, sr_cons, sr_nil, yajb h, zaw, hl, hle, ih, zan, zat, zaj, zam]
theorem yane (r v : Sv) (rl : List Int) (ml : List MCell) (pc cy : Int) (hs : StOk r v ⟨rl, ml, pc, cy⟩) (hr : rl ≠ []) (h1 : rl.length < 1000000) (hm : ml ≠ []) (h2 : ml.length < 1000000) : om Tryz.prog ⟨3, none⟩ 0 ztf ⟨⟨198, [(8, .ptr 0 0), (15, .ptr 1 0), (32, .ptr 2 0), (33, .bool true)]⟩, [], ⟨7, [some (.cells 32 [.rsl r.a r.c r.z (rl.map zcc), .rsl v.a v.c v.z (ml.map za0), .int .u64 pc, .int .i64 cy]), some (.cells 32 [.sl 3 0 rl.length 1, .sl 4 0 ml.length 2, .int .u64 pc, .int .i64 cy]), some (.cells 32 [.sl 5 0 rl.length 1, .sl 6 0 ml.length 2, .int .u64 pc, .int .i64 cy]), some (.cells 30 ((rl).map zcc)), some (.cells 57 (zcj (ml))), some (.cells 30 ((rl).map zcc)), some (.cells 57 (zcj (ml)))]⟩⟩ = some (.ret, ⟨⟨198, [(14, .bool true)]⟩, [], ⟨0, []⟩⟩) := by
 have A := ya46 r v rl ml pc cy h1 0 (Nat.zero_le _)
 have B := ya42 r v rl ml pc cy h2 0 (Nat.zero_le _)
 have E := fun (a1 : Addr) (c1 : Nat) (a2 : Addr) (c2 : Nat) => zbc ⟨some a1, c1, 1⟩ ⟨some a2, c2, 2⟩ r v ⟨rl, ml, pc, cy⟩ ⟨rl, ml, pc, cy⟩ ⟨⟨fun _ => rfl, fun _ => rfl⟩, ⟨fun _ => rfl, fun _ => rfl⟩, hs.rl, hs.vl⟩ hs
 have q1 : ∀ l : List Int, upR l 0 = l := fun l => rfl
 have q2 : ∀ l : List MCell, upM l 0 = l := fun l => rfl
 simp only [zbd, stV, List.map_nil, Int.natCast_zero, q1, q2] at A B E
 unfold ztf
 simp (maxSteps := 1000000) -implicitDefEqProofs only [↓reduceIte, ↓cond_true, ↓cond_false, sr1, sr2, kA, seval, zh9, n3, zic, zid, zie, e3, A, B, E, zb0, zb4, zc3, zb3, zbb, zbp, zb2, zay, zbn, zbo, za2 zoq zo8, inlB_some agU szU, zan, zat, za5, zb5, zaw, zaj, zam, zap, zav, za8, zci, zb7, Nat.sub_zero, zbk, zax]
theorem ya45 (r v : Sv) (rl : List Int) (pc cy : Int) (h1 : rl.length < 1000000) : ∀ i, i ≤ rl.length → lim (some [8, 15, 32, 33]) 0 (blk 0 (om Tryz.prog ⟨3, none⟩ 0 (.loop (lpb Tryz.f3 0)) ⟨⟨198, [(8, .ptr 0 0), (15, .ptr 1 0), (32, .ptr 2 0), (33, .bool true), (34, .int .i64 i)]⟩, [], ⟨5, [some (.cells 32 [.rsl r.a r.c r.z (rl.map zcc), .rsl v.a v.c v.z [], .int .u64 pc, .int .i64 cy]), some (.cells 32 [.sl 3 0 rl.length 1, .rsl none 0 0 [], .int .u64 pc, .int .i64 cy]), some (.cells 32 [.sl 4 0 rl.length 1, .rsl none 0 0 [], .int .u64 pc, .int .i64 cy]), some (.cells 30 ((rl).map zcc)), some (.cells 30 ((upR rl i).map zcc))]⟩⟩)) = some (.normal, ⟨⟨198, [(8, .ptr 0 0), (15, .ptr 1 0), (32, .ptr 2 0), (33, .bool true)]⟩, [], ⟨5, [some (.cells 32 [.rsl r.a r.c r.z (rl.map zcc), .rsl v.a v.c v.z [], .int .u64 pc, .int .i64 cy]), some (.cells 32 [.sl 3 0 rl.length 1, .rsl none 0 0 [], .int .u64 pc, .int .i64 cy]), some (.cells 32 [.sl 4 0 rl.length 1, .rsl none 0 0 [], .int .u64 pc, .int .i64 cy]), some (.cells 30 ((rl).map zcc)), some (.cells 30 ((upR rl rl.length).map zcc))]⟩⟩) := by
 refine zb8 ?_ (fun i h ih => ?_) <;> rw [zae]
 ·simp (maxSteps := 1000000) -implicitDefEqProofs only [↓reduceIte, ↓cond_true, ↓cond_false, sr1, sr2, kA, seval, d3, zh9, n3, zic, zid, zie, e3, zan, zat, zaj, zam]
 ·have hl := yajc (show i ≤ rl.length by omega)
  have hle : i + 1 ≤ rl.length := h
  simp (maxSteps := 1000000) -implicitDefEqProofs only [↓reduceIte, ↓cond_true, ↓cond_false, sr1, sr2, kA, seval, d3, zh9, n3, zic, zid, zie, e3, dlt_t h, wi_nat (show i < 2 ^ 62 by omega), Go.Ab.ix_sl h, sr_cons, sr_nil, yajd h, hl, hle, ih, zan, zat, zaj, zam]
theorem ya41 (r v : Sv) (rl : List Int) (pc cy : Int) : lim (some [8, 15, 33]) 0 (blk 2 (om Tryz.prog ⟨3, none⟩ 0 (.loop (lpb Tryz.f3 1)) ⟨⟨198, [(8, .ptr 0 0), (15, .ptr 1 0), (32, .ptr 2 0), (33, .bool true), (35, .int .i64 0)]⟩, [], ⟨5, [some (.cells 32 [.rsl r.a r.c r.z (rl.map zcc), .rsl v.a v.c v.z [], .int .u64 pc, .int .i64 cy]), some (.cells 32 [.sl 3 0 rl.length 1, .rsl none 0 0 [], .int .u64 pc, .int .i64 cy]), some (.cells 32 [.sl 4 0 rl.length 1, .rsl none 0 0 [], .int .u64 pc, .int .i64 cy]), some (.cells 30 ((rl).map zcc)), some (.cells 30 ((upR rl rl.length).map zcc))]⟩⟩)) = some (.normal, ⟨⟨198, [(8, .ptr 0 0), (15, .ptr 1 0), (33, .bool true)]⟩, [], ⟨3, [some (.cells 32 [.rsl r.a r.c r.z (rl.map zcc), .rsl v.a v.c v.z [], .int .u64 pc, .int .i64 cy]), some (.cells 32 [.sl 2 0 rl.length 1, .rsl none 0 0 [], .int .u64 pc, .int .i64 cy]), some (.cells 30 ((rl).map zcc))]⟩⟩) := by
 rw [zae]
 simp (maxSteps := 1000000) -implicitDefEqProofs only [↓reduceIte, ↓cond_true, ↓cond_false, sr1, sr2, kA, seval, d3, zh9, n3, zic, zid, zie, e3, zan, zat, zaj, zam]
theorem yand (r v : Sv) (rl : List Int) (pc cy : Int) (hs : StOk r v ⟨rl, [], pc, cy⟩) (hr : rl ≠ []) (h1 : rl.length < 1000000) : om Tryz.prog ⟨3, none⟩ 0 ztf ⟨⟨198, [(8, .ptr 0 0), (15, .ptr 1 0), (32, .ptr 2 0), (33, .bool true)]⟩, [], ⟨5, [some (.cells 32 [.rsl r.a r.c r.z (rl.map zcc), .rsl v.a v.c v.z [], .int .u64 pc, .int .i64 cy]), some (.cells 32 [.sl 3 0 rl.length 1, .rsl none 0 0 [], .int .u64 pc, .int .i64 cy]), some (.cells 32 [.sl 4 0 rl.length 1, .rsl none 0 0 [], .int .u64 pc, .int .i64 cy]), some (.cells 30 ((rl).map zcc)), some (.cells 30 ((rl).map zcc))]⟩⟩ = some (.ret, ⟨⟨198, [(14, .bool true)]⟩, [], ⟨0, []⟩⟩) := by
 have A := ya45 r v rl pc cy h1 0 (Nat.zero_le _)
 have B := ya41 r v rl pc cy
 have E := fun (a1 : Addr) (c1 : Nat) => zbc ⟨some a1, c1, 1⟩ ⟨none, 0, 0⟩ r v ⟨rl, [], pc, cy⟩ ⟨rl, [], pc, cy⟩ ⟨⟨fun _ => rfl, fun _ => rfl⟩, ⟨fun h => absurd h (Nat.lt_irrefl 0), fun h => absurd h (Nat.lt_irrefl 0)⟩, hs.rl, hs.vl⟩ hs
 have q1 : ∀ l : List Int, upR l 0 = l := fun l => rfl
 have q2 : ∀ l : List MCell, upM l 0 = l := fun l => rfl
 simp only [zbd, stV, List.map_nil, Int.natCast_zero, q1, q2] at A B E
 unfold ztf
 simp (maxSteps := 1000000) -implicitDefEqProofs only [↓reduceIte, ↓cond_true, ↓cond_false, sr1, sr2, kA, seval, zh9, n3, zic, zid, zie, e3, A, B, E, zb0, zb4, zc3, zb3, zbb, zbp, zb2, zay, zbn, zbo, za2 zoq zo8, inlB_some agU szU, zan, zat, za5, zb5, zaw, zaj, zam, zap, zav, za8, zci, zb7, Nat.sub_zero, zbk, zax]
theorem ya44 (r v : Sv) (ml : List MCell) (pc cy : Int) : lim (some [8, 15, 32, 33]) 0 (blk 0 (om Tryz.prog ⟨3, none⟩ 0 (.loop (lpb Tryz.f3 0)) ⟨⟨198, [(8, .ptr 0 0), (15, .ptr 1 0), (32, .ptr 2 0), (33, .bool true), (34, .int .i64 0)]⟩, [], ⟨5, [some (.cells 32 [.rsl r.a r.c r.z [], .rsl v.a v.c v.z (ml.map za0), .int .u64 pc, .int .i64 cy]), some (.cells 32 [.rsl none 0 0 [], .sl 3 0 ml.length 2, .int .u64 pc, .int .i64 cy]), some (.cells 32 [.rsl none 0 0 [], .sl 4 0 ml.length 2, .int .u64 pc, .int .i64 cy]), some (.cells 57 (zcj (ml))), some (.cells 57 (zcj (ml)))]⟩⟩)) = some (.normal, ⟨⟨198, [(8, .ptr 0 0), (15, .ptr 1 0), (32, .ptr 2 0), (33, .bool true)]⟩, [], ⟨5, [some (.cells 32 [.rsl r.a r.c r.z [], .rsl v.a v.c v.z (ml.map za0), .int .u64 pc, .int .i64 cy]), some (.cells 32 [.rsl none 0 0 [], .sl 3 0 ml.length 2, .int .u64 pc, .int .i64 cy]), some (.cells 32 [.rsl none 0 0 [], .sl 4 0 ml.length 2, .int .u64 pc, .int .i64 cy]), some (.cells 57 (zcj (ml))), some (.cells 57 (zcj (ml)))]⟩⟩) := by
 rw [zae]
 simp (maxSteps := 1000000) -implicitDefEqProofs only [↓reduceIte, ↓cond_true, ↓cond_false, sr1, sr2, kA, seval, d3, zh9, n3, zic, zid, zie, e3, zan, zat, zaj, zam]
theorem ya40 (r v : Sv) (ml : List MCell) (pc cy : Int) (h2 : ml.length < 1000000) : ∀ i, i ≤ ml.length → lim (some [8, 15, 33]) 0 (blk 2 (om Tryz.prog ⟨3, none⟩ 0 (.loop (lpb Tryz.f3 1)) ⟨⟨198, [(8, .ptr 0 0), (15, .ptr 1 0), (32, .ptr 2 0), (33, .bool true), (35, .int .i64 i)]⟩, [], ⟨5, [some (.cells 32 [.rsl r.a r.c r.z [], .rsl v.a v.c v.z (ml.map za0), .int .u64 pc, .int .i64 cy]), some (.cells 32 [.rsl none 0 0 [], .sl 3 0 ml.length 2, .int .u64 pc, .int .i64 cy]), some (.cells 32 [.rsl none 0 0 [], .sl 4 0 ml.length 2, .int .u64 pc, .int .i64 cy]), some (.cells 57 (zcj (ml))), some (.cells 57 (zcj (upM ml i)))]⟩⟩)) = some (.normal, ⟨⟨198, [(8, .ptr 0 0), (15, .ptr 1 0), (33, .bool true)]⟩, [], ⟨3, [some (.cells 32 [.rsl r.a r.c r.z [], .rsl v.a v.c v.z (ml.map za0), .int .u64 pc, .int .i64 cy]), some (.cells 32 [.rsl none 0 0 [], .sl 2 0 ml.length 2, .int .u64 pc, .int .i64 cy]), some (.cells 57 (zcj (ml)))]⟩⟩) := by
 refine zb8 ?_ (fun i h ih => ?_) <;> rw [zae]
 ·simp (maxSteps := 1000000) -implicitDefEqProofs only [↓reduceIte, ↓cond_true, ↓cond_false, sr1, sr2, kA, seval, d3, zh9, n3, zic, zid, zie, e3, zan, zat, zaj, zam]
 ·have hl := yaja (show i ≤ ml.length by omega)
  have hle : i * 2 + 1 + 1 ≤ ml.length * 2 := by omega
  simp (maxSteps := 1000000) -implicitDefEqProofs only [↓reduceIte, ↓cond_true, ↓cond_false, sr1, sr2, kA, seval, d3, zh9, n3, zic, zid, zie, e3, dlt_t h, wi_nat (show i < 2 ^ 62 by omega), Go.Ab.ix_sl h, sr_cons, sr_nil, yajb h, zaw, hl, hle, ih, zan, zat, zaj, zam]
theorem yanc (r v : Sv) (ml : List MCell) (pc cy : Int) (hs : StOk r v ⟨[], ml, pc, cy⟩) (hm : ml ≠ []) (h2 : ml.length < 1000000) : om Tryz.prog ⟨3, none⟩ 0 ztf ⟨⟨198, [(8, .ptr 0 0), (15, .ptr 1 0), (32, .ptr 2 0), (33, .bool true)]⟩, [], ⟨5, [some (.cells 32 [.rsl r.a r.c r.z [], .rsl v.a v.c v.z (ml.map za0), .int .u64 pc, .int .i64 cy]), some (.cells 32 [.rsl none 0 0 [], .sl 3 0 ml.length 2, .int .u64 pc, .int .i64 cy]), some (.cells 32 [.rsl none 0 0 [], .sl 4 0 ml.length 2, .int .u64 pc, .int .i64 cy]), some (.cells 57 (zcj (ml))), some (.cells 57 (zcj (ml)))]⟩⟩ = some (.ret, ⟨⟨198, [(14, .bool true)]⟩, [], ⟨0, []⟩⟩) := by
 have A := ya44 r v ml pc cy
 have B := ya40 r v ml pc cy h2 0 (Nat.zero_le _)
 have E := fun (a2 : Addr) (c2 : Nat) => zbc ⟨none, 0, 0⟩ ⟨some a2, c2, 2⟩ r v ⟨[], ml, pc, cy⟩ ⟨[], ml, pc, cy⟩ ⟨⟨fun h => absurd h (Nat.lt_irrefl 0), fun h => absurd h (Nat.lt_irrefl 0)⟩, ⟨fun _ => rfl, fun _ => rfl⟩, hs.rl, hs.vl⟩ hs
 have q1 : ∀ l : List Int, upR l 0 = l := fun l => rfl
 have q2 : ∀ l : List MCell, upM l 0 = l := fun l => rfl
 simp only [zbd, stV, List.map_nil, Int.natCast_zero, q1, q2] at A B E
 unfold ztf
 simp (maxSteps := 1000000) -implicitDefEqProofs only [↓reduceIte, ↓cond_true, ↓cond_false, sr1, sr2, kA, seval, zh9, n3, zic, zid, zie, e3, A, B, E, zb0, zb4, zc3, zb3, zbb, zbp, zb2, zay, zbn, zbo, za2 zoq zo8, inlB_some agU szU, zan, zat, za5, zb5, zaw, zaj, zam, zap, zav, za8, zci, zb7, Nat.sub_zero, zbk, zax]
theorem ya43 (r v : Sv) (pc cy : Int) : lim (some [8, 15, 32, 33]) 0 (blk 0 (om Tryz.prog ⟨3, none⟩ 0 (.loop (lpb Tryz.f3 0)) ⟨⟨198, [(8, .ptr 0 0), (15, .ptr 1 0), (32, .ptr 2 0), (33, .bool true), (34, .int .i64 0)]⟩, [], ⟨3, [some (.cells 32 [.rsl r.a r.c r.z [], .rsl v.a v.c v.z [], .int .u64 pc, .int .i64 cy]), some (.cells 32 [.rsl none 0 0 [], .rsl none 0 0 [], .int .u64 pc, .int .i64 cy]), some (.cells 32 [.rsl none 0 0 [], .rsl none 0 0 [], .int .u64 pc, .int .i64 cy])]⟩⟩)) = some (.normal, ⟨⟨198, [(8, .ptr 0 0), (15, .ptr 1 0), (32, .ptr 2 0), (33, .bool true)]⟩, [], ⟨3, [some (.cells 32 [.rsl r.a r.c r.z [], .rsl v.a v.c v.z [], .int .u64 pc, .int .i64 cy]), some (.cells 32 [.rsl none 0 0 [], .rsl none 0 0 [], .int .u64 pc, .int .i64 cy]), some (.cells 32 [.rsl none 0 0 [], .rsl none 0 0 [], .int .u64 pc, .int .i64 cy])]⟩⟩) := by
 rw [zae]
 simp (maxSteps := 1000000) -implicitDefEqProofs only [↓reduceIte, ↓cond_true, ↓cond_false, sr1, sr2, kA, seval, d3, zh9, n3, zic, zid, zie, e3, zan, zat, zaj, zam]
theorem ya4z (r v : Sv) (pc cy : Int) : lim (some [8, 15, 33]) 0 (blk 2 (om Tryz.prog ⟨3, none⟩ 0 (.loop (lpb Tryz.f3 1)) ⟨⟨198, [(8, .ptr 0 0), (15, .ptr 1 0), (32, .ptr 2 0), (33, .bool true), (35, .int .i64 0)]⟩, [], ⟨3, [some (.cells 32 [.rsl r.a r.c r.z [], .rsl v.a v.c v.z [], .int .u64 pc, .int .i64 cy]), some (.cells 32 [.rsl none 0 0 [], .rsl none 0 0 [], .int .u64 pc, .int .i64 cy]), some (.cells 32 [.rsl none 0 0 [], .rsl none 0 0 [], .int .u64 pc, .int .i64 cy])]⟩⟩)) = some (.normal, ⟨⟨198, [(8, .ptr 0 0), (15, .ptr 1 0), (33, .bool true)]⟩, [], ⟨2, [some (.cells 32 [.rsl r.a r.c r.z [], .rsl v.a v.c v.z [], .int .u64 pc, .int .i64 cy]), some (.cells 32 [.rsl none 0 0 [], .rsl none 0 0 [], .int .u64 pc, .int .i64 cy])]⟩⟩) := by
 rw [zae]
 simp (maxSteps := 1000000) -implicitDefEqProofs only [↓reduceIte, ↓cond_true, ↓cond_false, sr1, sr2, kA, seval, d3, zh9, n3, zic, zid, zie, e3, zan, zat, zaj, zam]
theorem yanb (r v : Sv) (pc cy : Int) (hs : StOk r v ⟨[], [], pc, cy⟩) : om Tryz.prog ⟨3, none⟩ 0 ztf ⟨⟨198, [(8, .ptr 0 0), (15, .ptr 1 0), (32, .ptr 2 0), (33, .bool true)]⟩, [], ⟨3, [some (.cells 32 [.rsl r.a r.c r.z [], .rsl v.a v.c v.z [], .int .u64 pc, .int .i64 cy]), some (.cells 32 [.rsl none 0 0 [], .rsl none 0 0 [], .int .u64 pc, .int .i64 cy]), some (.cells 32 [.rsl none 0 0 [], .rsl none 0 0 [], .int .u64 pc, .int .i64 cy])]⟩⟩ = some (.ret, ⟨⟨198, [(14, .bool true)]⟩, [], ⟨0, []⟩⟩) := by
 have A := ya43 r v pc cy
 have B := ya4z r v pc cy
 have E := zbc ⟨none, 0, 0⟩ ⟨none, 0, 0⟩ r v ⟨[], [], pc, cy⟩ ⟨[], [], pc, cy⟩ ⟨⟨fun h => absurd h (Nat.lt_irrefl 0), fun h => absurd h (Nat.lt_irrefl 0)⟩, ⟨fun h => absurd h (Nat.lt_irrefl 0), fun h => absurd h (Nat.lt_irrefl 0)⟩, hs.rl, hs.vl⟩ hs
 have q1 : ∀ l : List Int, upR l 0 = l := fun l => rfl
 have q2 : ∀ l : List MCell, upM l 0 = l := fun l => rfl
 simp only [zbd, stV, List.map_nil, Int.natCast_zero, q1, q2] at A B E
 unfold ztf
 simp (maxSteps := 1000000) -implicitDefEqProofs only [↓reduceIte, ↓cond_true, ↓cond_false, sr1, sr2, kA, seval, zh9, n3, zic, zid, zie, e3, A, B, E, zb0, zb4, zc3, zb3, zbb, zbp, zb2, zay, zbn, zbo, za2 zoq zo8, inlB_some agU szU, zan, zat, za5, zb5, zaw, zaj, zam, zap, zav, za8, zci, zb7, Nat.sub_zero, zbk, zax]
end Go.Proofs.YtcfcphhamfhfcaaGreatDoor.v
namespace Go.Proofs.YtcfcphhamfhfcaaGreatDoor.v
open Go Go.Ab
set_option maxRecDepth 100000
set_option maxHeartbeats 4000000
set_option linter.unusedSimpArgs false
set_option linter.unusedVariables false
noncomputable def zte : Code := .seq (za9 Tryz.f3 8) (.seq (za9 Tryz.f3 9) (.seq (za9 Tryz.f3 10) (.seq (za9 Tryz.f3 11) (.seq (za9 Tryz.f3 12) (.seq (za9 Tryz.f3 13) (.seq (za9 Tryz.f3 14) (.seq (za9 Tryz.f3 15) ztf)))))))
theorem zo4 {m : MMach} {s : MState} {x : Int} : ∃ a b, regA m s x = .tup [.int .u64 a, .int .i64 b] := by
 unfold regA
 cases decide (zpp m s = 0)
 ·exact ⟨_, _, rfl⟩
 ·exact zqy
theorem zmd {m : MMach} {s : MState} {t w : Int} : ∃ a b, zmc m s t w = .tup [.int .u64 a, .int .i64 b] := by
 unfold zmc
 cases decide (accS m s t w = 0)
 ·exact ⟨_, _, rfl⟩
 ·exact ⟨_, _, rfl⟩
theorem zhm {m : MMach} {s : MState} {t n : Int} : (zhl m s t n).length = n.toNat := yaez
theorem zdk {l : List Int} : eqL eqZ l l = true := (zyc yafp).2 rfl
theorem yana (m : MMach) (hO : MOk m) (h8 : NOk8 m) (r v : Sv) (rl : List Int) (ml : List MCell) (pc cy : Int) (hs : StOk r v ⟨rl, ml, pc, cy⟩) (hn : StNum2 ⟨rl, ml, pc, cy⟩) (hr : rl ≠ []) (h1 : rl.length < 1000000) (hm : ml ≠ []) (h2 : ml.length < 1000000) (x w n t : Int) (t0 : 0 ≤ t) : om Tryz.prog ⟨3, none⟩ 0 zte ⟨⟨198, [(3, .int .i64 x), (4, .int .i64 w), (5, .int .i64 n), (6, .int .u64 t), (7, .ptr 0 0), (8, .ptr 1 0), (15, .ptr 2 0)]⟩, [], ⟨5, [some (.cells 27 (zad m)), some (.cells 32 [.rsl r.a r.c r.z (rl.map zcc), .rsl v.a v.c v.z (ml.map za0), .int .u64 pc, .int .i64 cy]), some (.cells 32 [.sl 3 0 rl.length 1, .sl 4 0 ml.length 2, .int .u64 pc, .int .i64 cy]), some (.cells 30 ((rl).map zcc)), some (.cells 57 (zcj (ml)))]⟩⟩ = some (.ret, ⟨⟨198, [(14, .bool true)]⟩, [], ⟨0, []⟩⟩) := by
 obtain ⟨e1, e2, e⟩ := zo4 (m := m) (s := ⟨rl, ml, pc, cy⟩) (x := x)
 obtain ⟨g1, g2, g⟩ := zmd (m := m) (s := ⟨rl, ml, pc, cy⟩) (t := t) (w := w)
 have A1 := fun (a1 : Addr) (c1 : Nat) (a2 : Addr) (c2 : Nat) => zuh m hO ⟨some a1, c1, 1⟩ ⟨some a2, c2, 2⟩ ⟨rl, ml, pc, cy⟩ ⟨⟨fun _ => rfl, fun _ => rfl⟩, ⟨fun _ => rfl, fun _ => rfl⟩, hs.rl, hs.vl⟩ hn.n x
 have A2 := zms m h8 r v ⟨rl, ml, pc, cy⟩ hs hn.n x
 have A3 := fun (a1 : Addr) (c1 : Nat) (a2 : Addr) (c2 : Nat) => zox m hO ⟨some a1, c1, 1⟩ ⟨some a2, c2, 2⟩ ⟨rl, ml, pc, cy⟩ ⟨⟨fun _ => rfl, fun _ => rfl⟩, ⟨fun _ => rfl, fun _ => rfl⟩, hs.rl, hs.vl⟩ hn t w t0
 have A4 := zj0 m h8 r v ⟨rl, ml, pc, cy⟩ hs hn t w t0
 have A5 := fun (a1 : Addr) (c1 : Nat) (a2 : Addr) (c2 : Nat) => ztz m hO ⟨some a1, c1, 1⟩ ⟨some a2, c2, 2⟩ ⟨rl, ml, pc, cy⟩ ⟨⟨fun _ => rfl, fun _ => rfl⟩, ⟨fun _ => rfl, fun _ => rfl⟩, hs.rl, hs.vl⟩ hn t n t0
 have A6 := zl3 m h8 r v ⟨rl, ml, pc, cy⟩ hs hn t n t0
 have A7 := fun (a1 : Addr) (c1 : Nat) (a2 : Addr) (c2 : Nat) => yavd a1 a2 c1 c2 ⟨rl, ml, pc, cy⟩ hr hm h1 h2
 have A9 := fun (a1 : Addr) (c1 : Nat) (a2 : Addr) (c2 : Nat) => zbc ⟨some a1, c1, 1⟩ ⟨some a2, c2, 2⟩ r v ⟨rl, ml, pc, cy⟩ ⟨rl, ml, pc, cy⟩ ⟨⟨fun _ => rfl, fun _ => rfl⟩, ⟨fun _ => rfl, fun _ => rfl⟩, hs.rl, hs.vl⟩ hs
 have D := yane r v rl ml pc cy hs hr h1 hm h2
 rw [e] at A2
 rw [g] at A4
 simp only [e, g, zac, zad, stV, zbs, List.map_nil, zbd] at A1 A2 A3 A4 A5 A6 A7 A9
 unfold zte
 cases z : decide (getE m ⟨rl, ml, pc, cy⟩ t n = 0) with
 | false =>
  have A8 := zcy ⟨none, 0, 0⟩ ⟨none, 0, 0⟩ [] [] ⟨fun h => absurd h (Nat.lt_irrefl 0), fun h => absurd h (Nat.lt_irrefl 0)⟩ ⟨fun h => absurd h (Nat.lt_irrefl 0), fun h => absurd h (Nat.lt_irrefl 0)⟩ (Nat.zero_lt_succ _)
  simp only [zdk, List.map_nil] at A8
  simp only [z, cond_false] at A5 A6
  simp (maxSteps := 1000000) -implicitDefEqProofs only [↓reduceIte, ↓cond_true, ↓cond_false, sr1, sr2, kA, seval, zh9, n3, zic, zid, zie, e3, zad, A1, A2, A3, A4, A5, A6, A7, A8, A9, D, zb0, zb4, zc3, zb3, zbb, zbp, zb2, zay, zbn, zbo, za2 zoq zo8, inlB_some agU szU, zan, zat, za5, zb5, zaw, zaj, zam, zap, zav, za8, zci, zb7, Nat.sub_zero, zbk, zax]
 | true =>
  simp only [z, cond_true] at A5 A6
  cases y : decide (n = 0) with
  | true =>
   have y0 := of_decide_eq_true y
   have A8 := fun (a1 : Addr) (c1 : Nat) => zcy ⟨some a1, c1, 1⟩ ⟨none, 0, 0⟩ [] [] ⟨fun h => absurd h (Nat.lt_irrefl 0), fun h => absurd h (Nat.lt_irrefl 0)⟩ ⟨fun h => absurd h (Nat.lt_irrefl 0), fun h => absurd h (Nat.lt_irrefl 0)⟩ (Nat.zero_lt_succ _)
   have yl : zhl m ⟨rl, ml, pc, cy⟩ t 0 = [] := rfl
   subst y0
   simp only [zdk, List.map_nil] at A8
   simp only [y, cond_true, yl, List.map_nil, Int.toNat_zero] at A5 A6
   simp (maxSteps := 1000000) -implicitDefEqProofs only [↓reduceIte, ↓cond_true, ↓cond_false, sr1, sr2, kA, seval, zh9, n3, zic, zid, zie, e3, inlB_some agB8 szB8, zad, A1, A2, A3, A4, A5, A6, A7, A8, A9, D, zb0, zb4, zc3, zb3, zbb, zbp, zb2, zay, zbn, zbo, za2 zoq zo8, inlB_some agU szU, zan, zat, za5, zb5, zaw, zaj, zam, zap, zav, za8, zci, zb7, Nat.sub_zero, zbk, zax]
  | false =>
   have hL := zhm (m := m) (s := ⟨rl, ml, pc, cy⟩) (t := t) (n := n)
   have n1 : n ≤ 4096 := (yaak (of_decide_eq_true z)).n1
   simp only [y, cond_false] at A5 A6
   generalize zhl m ⟨rl, ml, pc, cy⟩ t n = L at A5 A6 hL
   have A8 := fun (a1 : Addr) (c1 : Nat) (a2 : Addr) (c2 : Nat) => zcy ⟨some a1, c1, 1⟩ ⟨some a2, c2, 1⟩ L L ⟨fun _ => rfl, fun _ => rfl⟩ ⟨fun _ => rfl, fun _ => rfl⟩ (by omega)
   have tk : List.take n.toNat (L.map u8V) = L.map u8V := by rw [← hL]; exact zci
   simp only [zdk] at A8
   simp (maxSteps := 1000000) -implicitDefEqProofs only [↓reduceIte, ↓cond_true, ↓cond_false, sr1, sr2, kA, seval, zh9, n3, zic, zid, zie, e3, inlB_some agB8 szB8, hL, tk, zeu, zgu, zmb, yabk, zs2, zad, A1, A2, A3, A4, A5, A6, A7, A8, A9, D, zb0, zb4, zc3, zb3, zbb, zbp, zb2, zay, zbn, zbo, za2 zoq zo8, inlB_some agU szU, zan, zat, za5, zb5, zaw, zaj, zam, zap, zav, za8, zci, zb7, Nat.sub_zero, zbk, zax]
theorem yam9 (m : MMach) (hO : MOk m) (h8 : NOk8 m) (r v : Sv) (rl : List Int) (pc cy : Int) (hs : StOk r v ⟨rl, [], pc, cy⟩) (hn : StNum2 ⟨rl, [], pc, cy⟩) (hr : rl ≠ []) (h1 : rl.length < 1000000) (x w n t : Int) (t0 : 0 ≤ t) : om Tryz.prog ⟨3, none⟩ 0 zte ⟨⟨198, [(3, .int .i64 x), (4, .int .i64 w), (5, .int .i64 n), (6, .int .u64 t), (7, .ptr 0 0), (8, .ptr 1 0), (15, .ptr 2 0)]⟩, [], ⟨4, [some (.cells 27 (zad m)), some (.cells 32 [.rsl r.a r.c r.z (rl.map zcc), .rsl v.a v.c v.z [], .int .u64 pc, .int .i64 cy]), some (.cells 32 [.sl 3 0 rl.length 1, .rsl none 0 0 [], .int .u64 pc, .int .i64 cy]), some (.cells 30 ((rl).map zcc))]⟩⟩ = some (.ret, ⟨⟨198, [(14, .bool true)]⟩, [], ⟨0, []⟩⟩) := by
 obtain ⟨e1, e2, e⟩ := zo4 (m := m) (s := ⟨rl, [], pc, cy⟩) (x := x)
 obtain ⟨g1, g2, g⟩ := zmd (m := m) (s := ⟨rl, [], pc, cy⟩) (t := t) (w := w)
 have A1 := fun (a1 : Addr) (c1 : Nat) => zuh m hO ⟨some a1, c1, 1⟩ ⟨none, 0, 0⟩ ⟨rl, [], pc, cy⟩ ⟨⟨fun _ => rfl, fun _ => rfl⟩, ⟨fun h => absurd h (Nat.lt_irrefl 0), fun h => absurd h (Nat.lt_irrefl 0)⟩, hs.rl, hs.vl⟩ hn.n x
 have A2 := zms m h8 r v ⟨rl, [], pc, cy⟩ hs hn.n x
 have A3 := fun (a1 : Addr) (c1 : Nat) => zox m hO ⟨some a1, c1, 1⟩ ⟨none, 0, 0⟩ ⟨rl, [], pc, cy⟩ ⟨⟨fun _ => rfl, fun _ => rfl⟩, ⟨fun h => absurd h (Nat.lt_irrefl 0), fun h => absurd h (Nat.lt_irrefl 0)⟩, hs.rl, hs.vl⟩ hn t w t0
 have A4 := zj0 m h8 r v ⟨rl, [], pc, cy⟩ hs hn t w t0
 have A5 := fun (a1 : Addr) (c1 : Nat) => ztz m hO ⟨some a1, c1, 1⟩ ⟨none, 0, 0⟩ ⟨rl, [], pc, cy⟩ ⟨⟨fun _ => rfl, fun _ => rfl⟩, ⟨fun h => absurd h (Nat.lt_irrefl 0), fun h => absurd h (Nat.lt_irrefl 0)⟩, hs.rl, hs.vl⟩ hn t n t0
 have A6 := zl3 m h8 r v ⟨rl, [], pc, cy⟩ hs hn t n t0
 have A7 := fun (a1 : Addr) (c1 : Nat) => yavc a1 c1 0 0 ⟨rl, [], pc, cy⟩ hr h1
 have A9 := fun (a1 : Addr) (c1 : Nat) => zbc ⟨some a1, c1, 1⟩ ⟨none, 0, 0⟩ r v ⟨rl, [], pc, cy⟩ ⟨rl, [], pc, cy⟩ ⟨⟨fun _ => rfl, fun _ => rfl⟩, ⟨fun h => absurd h (Nat.lt_irrefl 0), fun h => absurd h (Nat.lt_irrefl 0)⟩, hs.rl, hs.vl⟩ hs
 have D := yand r v rl pc cy hs hr h1
 rw [e] at A2
 rw [g] at A4
 simp only [e, g, zac, zad, stV, zbs, List.map_nil, zbd] at A1 A2 A3 A4 A5 A6 A7 A9
 unfold zte
 cases z : decide (getE m ⟨rl, [], pc, cy⟩ t n = 0) with
 | false =>
  have A8 := zcy ⟨none, 0, 0⟩ ⟨none, 0, 0⟩ [] [] ⟨fun h => absurd h (Nat.lt_irrefl 0), fun h => absurd h (Nat.lt_irrefl 0)⟩ ⟨fun h => absurd h (Nat.lt_irrefl 0), fun h => absurd h (Nat.lt_irrefl 0)⟩ (Nat.zero_lt_succ _)
  simp only [zdk, List.map_nil] at A8
  simp only [z, cond_false] at A5 A6
  simp (maxSteps := 1000000) -implicitDefEqProofs only [↓reduceIte, ↓cond_true, ↓cond_false, sr1, sr2, kA, seval, zh9, n3, zic, zid, zie, e3, zad, A1, A2, A3, A4, A5, A6, A7, A8, A9, D, zb0, zb4, zc3, zb3, zbb, zbp, zb2, zay, zbn, zbo, za2 zoq zo8, inlB_some agU szU, zan, zat, za5, zb5, zaw, zaj, zam, zap, zav, za8, zci, zb7, Nat.sub_zero, zbk, zax]
 | true =>
  simp only [z, cond_true] at A5 A6
  cases y : decide (n = 0) with
  | true =>
   have y0 := of_decide_eq_true y
   have A8 := fun (a1 : Addr) (c1 : Nat) => zcy ⟨some a1, c1, 1⟩ ⟨none, 0, 0⟩ [] [] ⟨fun h => absurd h (Nat.lt_irrefl 0), fun h => absurd h (Nat.lt_irrefl 0)⟩ ⟨fun h => absurd h (Nat.lt_irrefl 0), fun h => absurd h (Nat.lt_irrefl 0)⟩ (Nat.zero_lt_succ _)
   have yl : zhl m ⟨rl, [], pc, cy⟩ t 0 = [] := rfl
   subst y0
   simp only [zdk, List.map_nil] at A8
   simp only [y, cond_true, yl, List.map_nil, Int.toNat_zero] at A5 A6
   simp (maxSteps := 1000000) -implicitDefEqProofs only [↓reduceIte, ↓cond_true, ↓cond_false, sr1, sr2, kA, seval, zh9, n3, zic, zid, zie, e3, inlB_some agB8 szB8, zad, A1, A2, A3, A4, A5, A6, A7, A8, A9, D, zb0, zb4, zc3, zb3, zbb, zbp, zb2, zay, zbn, zbo, za2 zoq zo8, inlB_some agU szU, zan, zat, za5, zb5, zaw, zaj, zam, zap, zav, za8, zci, zb7, Nat.sub_zero, zbk, zax]
  | false =>
   have hL := zhm (m := m) (s := ⟨rl, [], pc, cy⟩) (t := t) (n := n)
   have n1 : n ≤ 4096 := (yaak (of_decide_eq_true z)).n1
   simp only [y, cond_false] at A5 A6
   generalize zhl m ⟨rl, [], pc, cy⟩ t n = L at A5 A6 hL
   have A8 := fun (a1 : Addr) (c1 : Nat) (a2 : Addr) (c2 : Nat) => zcy ⟨some a1, c1, 1⟩ ⟨some a2, c2, 1⟩ L L ⟨fun _ => rfl, fun _ => rfl⟩ ⟨fun _ => rfl, fun _ => rfl⟩ (by omega)
   have tk : List.take n.toNat (L.map u8V) = L.map u8V := by rw [← hL]; exact zci
   simp only [zdk] at A8
   simp (maxSteps := 1000000) -implicitDefEqProofs only [↓reduceIte, ↓cond_true, ↓cond_false, sr1, sr2, kA, seval, zh9, n3, zic, zid, zie, e3, inlB_some agB8 szB8, hL, tk, zeu, zgu, zmb, yabk, zs2, zad, A1, A2, A3, A4, A5, A6, A7, A8, A9, D, zb0, zb4, zc3, zb3, zbb, zbp, zb2, zay, zbn, zbo, za2 zoq zo8, inlB_some agU szU, zan, zat, za5, zb5, zaw, zaj, zam, zap, zav, za8, zci, zb7, Nat.sub_zero, zbk, zax]
theorem yam8 (m : MMach) (hO : MOk m) (h8 : NOk8 m) (r v : Sv) (ml : List MCell) (pc cy : Int) (hs : StOk r v ⟨[], ml, pc, cy⟩) (hn : StNum2 ⟨[], ml, pc, cy⟩) (hm : ml ≠ []) (h2 : ml.length < 1000000) (x w n t : Int) (t0 : 0 ≤ t) : om Tryz.prog ⟨3, none⟩ 0 zte ⟨⟨198, [(3, .int .i64 x), (4, .int .i64 w), (5, .int .i64 n), (6, .int .u64 t), (7, .ptr 0 0), (8, .ptr 1 0), (15, .ptr 2 0)]⟩, [], ⟨4, [some (.cells 27 (zad m)), some (.cells 32 [.rsl r.a r.c r.z [], .rsl v.a v.c v.z (ml.map za0), .int .u64 pc, .int .i64 cy]), some (.cells 32 [.rsl none 0 0 [], .sl 3 0 ml.length 2, .int .u64 pc, .int .i64 cy]), some (.cells 57 (zcj (ml)))]⟩⟩ = some (.ret, ⟨⟨198, [(14, .bool true)]⟩, [], ⟨0, []⟩⟩) := by
 obtain ⟨e1, e2, e⟩ := zo4 (m := m) (s := ⟨[], ml, pc, cy⟩) (x := x)
 obtain ⟨g1, g2, g⟩ := zmd (m := m) (s := ⟨[], ml, pc, cy⟩) (t := t) (w := w)
 have A1 := fun (a2 : Addr) (c2 : Nat) => zuh m hO ⟨none, 0, 0⟩ ⟨some a2, c2, 2⟩ ⟨[], ml, pc, cy⟩ ⟨⟨fun h => absurd h (Nat.lt_irrefl 0), fun h => absurd h (Nat.lt_irrefl 0)⟩, ⟨fun _ => rfl, fun _ => rfl⟩, hs.rl, hs.vl⟩ hn.n x
 have A2 := zms m h8 r v ⟨[], ml, pc, cy⟩ hs hn.n x
 have A3 := fun (a2 : Addr) (c2 : Nat) => zox m hO ⟨none, 0, 0⟩ ⟨some a2, c2, 2⟩ ⟨[], ml, pc, cy⟩ ⟨⟨fun h => absurd h (Nat.lt_irrefl 0), fun h => absurd h (Nat.lt_irrefl 0)⟩, ⟨fun _ => rfl, fun _ => rfl⟩, hs.rl, hs.vl⟩ hn t w t0
 have A4 := zj0 m h8 r v ⟨[], ml, pc, cy⟩ hs hn t w t0
 have A5 := fun (a2 : Addr) (c2 : Nat) => ztz m hO ⟨none, 0, 0⟩ ⟨some a2, c2, 2⟩ ⟨[], ml, pc, cy⟩ ⟨⟨fun h => absurd h (Nat.lt_irrefl 0), fun h => absurd h (Nat.lt_irrefl 0)⟩, ⟨fun _ => rfl, fun _ => rfl⟩, hs.rl, hs.vl⟩ hn t n t0
 have A6 := zl3 m h8 r v ⟨[], ml, pc, cy⟩ hs hn t n t0
 have A7 := fun (a2 : Addr) (c2 : Nat) => yavb a2 0 c2 0 ⟨[], ml, pc, cy⟩ hm h2
 have A9 := fun (a2 : Addr) (c2 : Nat) => zbc ⟨none, 0, 0⟩ ⟨some a2, c2, 2⟩ r v ⟨[], ml, pc, cy⟩ ⟨[], ml, pc, cy⟩ ⟨⟨fun h => absurd h (Nat.lt_irrefl 0), fun h => absurd h (Nat.lt_irrefl 0)⟩, ⟨fun _ => rfl, fun _ => rfl⟩, hs.rl, hs.vl⟩ hs
 have D := yanc r v ml pc cy hs hm h2
 rw [e] at A2
 rw [g] at A4
 simp only [e, g, zac, zad, stV, zbs, List.map_nil, zbd] at A1 A2 A3 A4 A5 A6 A7 A9
 unfold zte
 cases z : decide (getE m ⟨[], ml, pc, cy⟩ t n = 0) with
 | false =>
  have A8 := zcy ⟨none, 0, 0⟩ ⟨none, 0, 0⟩ [] [] ⟨fun h => absurd h (Nat.lt_irrefl 0), fun h => absurd h (Nat.lt_irrefl 0)⟩ ⟨fun h => absurd h (Nat.lt_irrefl 0), fun h => absurd h (Nat.lt_irrefl 0)⟩ (Nat.zero_lt_succ _)
  simp only [zdk, List.map_nil] at A8
  simp only [z, cond_false] at A5 A6
  simp (maxSteps := 1000000) -implicitDefEqProofs only [↓reduceIte, ↓cond_true, ↓cond_false, sr1, sr2, kA, seval, zh9, n3, zic, zid, zie, e3, zad, A1, A2, A3, A4, A5, A6, A7, A8, A9, D, zb0, zb4, zc3, zb3, zbb, zbp, zb2, zay, zbn, zbo, za2 zoq zo8, inlB_some agU szU, zan, zat, za5, zb5, zaw, zaj, zam, zap, zav, za8, zci, zb7, Nat.sub_zero, zbk, zax]
 | true =>
  simp only [z, cond_true] at A5 A6
  cases y : decide (n = 0) with
  | true =>
   have y0 := of_decide_eq_true y
   have A8 := fun (a1 : Addr) (c1 : Nat) => zcy ⟨some a1, c1, 1⟩ ⟨none, 0, 0⟩ [] [] ⟨fun h => absurd h (Nat.lt_irrefl 0), fun h => absurd h (Nat.lt_irrefl 0)⟩ ⟨fun h => absurd h (Nat.lt_irrefl 0), fun h => absurd h (Nat.lt_irrefl 0)⟩ (Nat.zero_lt_succ _)
   have yl : zhl m ⟨[], ml, pc, cy⟩ t 0 = [] := rfl
   subst y0
   simp only [zdk, List.map_nil] at A8
   simp only [y, cond_true, yl, List.map_nil, Int.toNat_zero] at A5 A6
   simp (maxSteps := 1000000) -implicitDefEqProofs only [↓reduceIte, ↓cond_true, ↓cond_false, sr1, sr2, kA, seval, zh9, n3, zic, zid, zie, e3, inlB_some agB8 szB8, zad, A1, A2, A3, A4, A5, A6, A7, A8, A9, D, zb0, zb4, zc3, zb3, zbb, zbp, zb2, zay, zbn, zbo, za2 zoq zo8, inlB_some agU szU, zan, zat, za5, zb5, zaw, zaj, zam, zap, zav, za8, zci, zb7, Nat.sub_zero, zbk, zax]
  | false =>
   have hL := zhm (m := m) (s := ⟨[], ml, pc, cy⟩) (t := t) (n := n)
   have n1 : n ≤ 4096 := (yaak (of_decide_eq_true z)).n1
   simp only [y, cond_false] at A5 A6
   generalize zhl m ⟨[], ml, pc, cy⟩ t n = L at A5 A6 hL
   have A8 := fun (a1 : Addr) (c1 : Nat) (a2 : Addr) (c2 : Nat) => zcy ⟨some a1, c1, 1⟩ ⟨some a2, c2, 1⟩ L L ⟨fun _ => rfl, fun _ => rfl⟩ ⟨fun _ => rfl, fun _ => rfl⟩ (by omega)
   have tk : List.take n.toNat (L.map u8V) = L.map u8V := by rw [← hL]; exact zci
   simp only [zdk] at A8
   simp (maxSteps := 1000000) -implicitDefEqProofs only [↓reduceIte, ↓cond_true, ↓cond_false, sr1, sr2, kA, seval, zh9, n3, zic, zid, zie, e3, inlB_some agB8 szB8, hL, tk, zeu, zgu, zmb, yabk, zs2, zad, A1, A2, A3, A4, A5, A6, A7, A8, A9, D, zb0, zb4, zc3, zb3, zbb, zbp, zb2, zay, zbn, zbo, za2 zoq zo8, inlB_some agU szU, zan, zat, za5, zb5, zaw, zaj, zam, zap, zav, za8, zci, zb7, Nat.sub_zero, zbk, zax]
theorem yam7 (m : MMach) (hO : MOk m) (h8 : NOk8 m) (r v : Sv) (pc cy : Int) (hs : StOk r v ⟨[], [], pc, cy⟩) (hn : StNum2 ⟨[], [], pc, cy⟩) (x w n t : Int) (t0 : 0 ≤ t) : om Tryz.prog ⟨3, none⟩ 0 zte ⟨⟨198, [(3, .int .i64 x), (4, .int .i64 w), (5, .int .i64 n), (6, .int .u64 t), (7, .ptr 0 0), (8, .ptr 1 0), (15, .ptr 2 0)]⟩, [], ⟨3, [some (.cells 27 (zad m)), some (.cells 32 [.rsl r.a r.c r.z [], .rsl v.a v.c v.z [], .int .u64 pc, .int .i64 cy]), some (.cells 32 [.rsl none 0 0 [], .rsl none 0 0 [], .int .u64 pc, .int .i64 cy])]⟩⟩ = some (.ret, ⟨⟨198, [(14, .bool true)]⟩, [], ⟨0, []⟩⟩) := by
 obtain ⟨e1, e2, e⟩ := zo4 (m := m) (s := ⟨[], [], pc, cy⟩) (x := x)
 obtain ⟨g1, g2, g⟩ := zmd (m := m) (s := ⟨[], [], pc, cy⟩) (t := t) (w := w)
 have A1 := zuh m hO ⟨none, 0, 0⟩ ⟨none, 0, 0⟩ ⟨[], [], pc, cy⟩ ⟨⟨fun h => absurd h (Nat.lt_irrefl 0), fun h => absurd h (Nat.lt_irrefl 0)⟩, ⟨fun h => absurd h (Nat.lt_irrefl 0), fun h => absurd h (Nat.lt_irrefl 0)⟩, hs.rl, hs.vl⟩ hn.n x
 have A2 := zms m h8 r v ⟨[], [], pc, cy⟩ hs hn.n x
 have A3 := zox m hO ⟨none, 0, 0⟩ ⟨none, 0, 0⟩ ⟨[], [], pc, cy⟩ ⟨⟨fun h => absurd h (Nat.lt_irrefl 0), fun h => absurd h (Nat.lt_irrefl 0)⟩, ⟨fun h => absurd h (Nat.lt_irrefl 0), fun h => absurd h (Nat.lt_irrefl 0)⟩, hs.rl, hs.vl⟩ hn t w t0
 have A4 := zj0 m h8 r v ⟨[], [], pc, cy⟩ hs hn t w t0
 have A5 := ztz m hO ⟨none, 0, 0⟩ ⟨none, 0, 0⟩ ⟨[], [], pc, cy⟩ ⟨⟨fun h => absurd h (Nat.lt_irrefl 0), fun h => absurd h (Nat.lt_irrefl 0)⟩, ⟨fun h => absurd h (Nat.lt_irrefl 0), fun h => absurd h (Nat.lt_irrefl 0)⟩, hs.rl, hs.vl⟩ hn t n t0
 have A6 := zl3 m h8 r v ⟨[], [], pc, cy⟩ hs hn t n t0
 have A7 := yava 0 0 0 0 ⟨[], [], pc, cy⟩
 have A9 := zbc ⟨none, 0, 0⟩ ⟨none, 0, 0⟩ r v ⟨[], [], pc, cy⟩ ⟨[], [], pc, cy⟩ ⟨⟨fun h => absurd h (Nat.lt_irrefl 0), fun h => absurd h (Nat.lt_irrefl 0)⟩, ⟨fun h => absurd h (Nat.lt_irrefl 0), fun h => absurd h (Nat.lt_irrefl 0)⟩, hs.rl, hs.vl⟩ hs
 have D := yanb r v pc cy hs
 rw [e] at A2
 rw [g] at A4
 simp only [e, g, zac, zad, stV, zbs, List.map_nil, zbd] at A1 A2 A3 A4 A5 A6 A7 A9
 unfold zte
 cases z : decide (getE m ⟨[], [], pc, cy⟩ t n = 0) with
 | false =>
  have A8 := zcy ⟨none, 0, 0⟩ ⟨none, 0, 0⟩ [] [] ⟨fun h => absurd h (Nat.lt_irrefl 0), fun h => absurd h (Nat.lt_irrefl 0)⟩ ⟨fun h => absurd h (Nat.lt_irrefl 0), fun h => absurd h (Nat.lt_irrefl 0)⟩ (Nat.zero_lt_succ _)
  simp only [zdk, List.map_nil] at A8
  simp only [z, cond_false] at A5 A6
  simp (maxSteps := 1000000) -implicitDefEqProofs only [↓reduceIte, ↓cond_true, ↓cond_false, sr1, sr2, kA, seval, zh9, n3, zic, zid, zie, e3, zad, A1, A2, A3, A4, A5, A6, A7, A8, A9, D, zb0, zb4, zc3, zb3, zbb, zbp, zb2, zay, zbn, zbo, za2 zoq zo8, inlB_some agU szU, zan, zat, za5, zb5, zaw, zaj, zam, zap, zav, za8, zci, zb7, Nat.sub_zero, zbk, zax]
 | true =>
  simp only [z, cond_true] at A5 A6
  cases y : decide (n = 0) with
  | true =>
   have y0 := of_decide_eq_true y
   have A8 := fun (a1 : Addr) (c1 : Nat) => zcy ⟨some a1, c1, 1⟩ ⟨none, 0, 0⟩ [] [] ⟨fun h => absurd h (Nat.lt_irrefl 0), fun h => absurd h (Nat.lt_irrefl 0)⟩ ⟨fun h => absurd h (Nat.lt_irrefl 0), fun h => absurd h (Nat.lt_irrefl 0)⟩ (Nat.zero_lt_succ _)
   have yl : zhl m ⟨[], [], pc, cy⟩ t 0 = [] := rfl
   subst y0
   simp only [zdk, List.map_nil] at A8
   simp only [y, cond_true, yl, List.map_nil, Int.toNat_zero] at A5 A6
   simp (maxSteps := 1000000) -implicitDefEqProofs only [↓reduceIte, ↓cond_true, ↓cond_false, sr1, sr2, kA, seval, zh9, n3, zic, zid, zie, e3, inlB_some agB8 szB8, zad, A1, A2, A3, A4, A5, A6, A7, A8, A9, D, zb0, zb4, zc3, zb3, zbb, zbp, zb2, zay, zbn, zbo, za2 zoq zo8, inlB_some agU szU, zan, zat, za5, zb5, zaw, zaj, zam, zap, zav, za8, zci, zb7, Nat.sub_zero, zbk, zax]
  | false =>
   have hL := zhm (m := m) (s := ⟨[], [], pc, cy⟩) (t := t) (n := n)
   have n1 : n ≤ 4096 := (yaak (of_decide_eq_true z)).n1
   simp only [y, cond_false] at A5 A6
   generalize zhl m ⟨[], [], pc, cy⟩ t n = L at A5 A6 hL
   have A8 := fun (a1 : Addr) (c1 : Nat) (a2 : Addr) (c2 : Nat) => zcy ⟨some a1, c1, 1⟩ ⟨some a2, c2, 1⟩ L L ⟨fun _ => rfl, fun _ => rfl⟩ ⟨fun _ => rfl, fun _ => rfl⟩ (by omega)
   have tk : List.take n.toNat (L.map u8V) = L.map u8V := by rw [← hL]; exact zci
   simp only [zdk] at A8
   simp (maxSteps := 1000000) -implicitDefEqProofs only [↓reduceIte, ↓cond_true, ↓cond_false, sr1, sr2, kA, seval, zh9, n3, zic, zid, zie, e3, inlB_some agB8 szB8, hL, tk, zeu, zgu, zmb, yabk, zs2, zad, A1, A2, A3, A4, A5, A6, A7, A8, A9, D, zb0, zb4, zc3, zb3, zbb, zbp, zb2, zay, zbn, zbo, za2 zoq zo8, inlB_some agU szU, zan, zat, za5, zb5, zaw, zaj, zam, zap, zav, za8, zci, zb7, Nat.sub_zero, zbk, zax]
theorem d3a : CE Tryz.prog (bdy Tryz.f3) (.seq (za9 Tryz.f3 0) (.seq (.seq (za9 Tryz.f3 1) (.cond (.tmp 42) (.seq (za9 Tryz.f3 2) .ret) .skip)) (.seq (za9 Tryz.f3 3) (.seq (za9 Tryz.f3 4) (.seq (za9 Tryz.f3 5) (.seq (.seq (za9 Tryz.f3 6) (.cond (.tmp 87) (.seq (za9 Tryz.f3 7) .ret) .skip)) zte)))))) := d3
def zl (n : Nat) : List Int := List.replicate n 0
theorem zsw {n : Nat} : (zl n).length = n := by simp [zl]
theorem zu1 {n : Nat} : zer n = (zl n).map zcc := by simp [zer, zl, zcc]
theorem yanh {n : Nat} : List.take n ((zl n).map zcc) = (zl n).map zcc := by
 have := zci (l := zl n) (f := zcc); rwa [zsw] at this
theorem bneq {x y : Bool} : zeg Tryz.prog .neq 4 (.bool x) (.bool y) = some (.bool (!(x == y))) := bo_neq (by kernel_rfl)
theorem yaf1 {s : MState} (h : zd6 s = false) : s.regs.length ≤ 80 ∧ s.mem.length ≤ 4200 := by
 unfold zd6 at h
 simp only [Bool.or_eq_false_iff, decide_eq_false_iff_not] at h
 omega
theorem zp9 (m : MMach) (hR : RawM m) (r v r' v' : Sv) (s u : MState) (x w n t : Int) (h : zg1 m = true ∨ zd6 s = true ∨ zd6 u = true) : zaq Tryz.prog (om Tryz.prog) 3 [zac m, stV r v s, stV r' v' u, .int .i64 x, .int .i64 w, .int .i64 n, .int .u64 t] ⟨0, []⟩ = some (.bool true, ⟨0, []⟩) := by
 have h1 := zi2 m hR r v s
 have h2 := zff r' v' u
 simp only [zac, zad, stV] at h1 h2
 rw [yae6 _ _ (by simp)]
 cases g : (zg1 m || zd6 s) with
 | true =>
  rw [g] at h1
  simp (maxSteps := 1000000) -implicitDefEqProofs only [↓reduceIte, ↓cond_true, ↓cond_false, sr1, sr2, kA, seval, zh9, n3, zic, zid, zie, e3, d3a, zac, zad, stV, h1]
 | false =>
  rw [g] at h1
  simp only [Bool.or_eq_false_iff] at g
  have g3 : zd6 u = true := by
   rcases h with h | h | h
   ·rw [g.1] at h; cases h
   ·rw [g.2] at h; cases h
   ·exact h
  rw [g3] at h2
  simp (maxSteps := 1000000) -implicitDefEqProofs only [↓reduceIte, ↓cond_true, ↓cond_false, sr1, sr2, kA, seval, zh9, n3, zic, zid, zie, e3, d3a, zac, zad, stV, h1, h2]
theorem zok {m : MMach} (hB : Bd m) {a : Addr} {c : Nat} : StOk ⟨some a, c, 1⟩ ⟨none, 0, 0⟩ ⟨zl (za1 m).length, [], 0, 0⟩ := by
 have h1 := zfd hB
 have h2 := hB.r
 exact ⟨⟨fun _ => rfl, fun _ => rfl⟩, ⟨fun h => absurd h (Nat.lt_irrefl 0), fun h => absurd h (Nat.lt_irrefl 0)⟩, by simp only [zsw]; omega, Nat.zero_lt_succ _⟩
theorem eok : StOk ⟨none, 0, 0⟩ ⟨none, 0, 0⟩ ⟨[], [], 0, 0⟩ := ⟨⟨fun h => absurd h (Nat.lt_irrefl 0), fun h => absurd h (Nat.lt_irrefl 0)⟩, ⟨fun h => absurd h (Nat.lt_irrefl 0), fun h => absurd h (Nat.lt_irrefl 0)⟩, Nat.zero_lt_succ _, Nat.zero_lt_succ _⟩
theorem yazw (m : MMach) (hR : RawM m) (hN : NumM m) (r v : Sv) (rl : List Int) (ml : List MCell) (pc cy : Int) (hs : StOk r v ⟨rl, ml, pc, cy⟩) (hn : StNum2 ⟨rl, ml, pc, cy⟩) (hr : rl ≠ []) (h1 : rl.length < 1000000) (hm : ml ≠ []) (h2 : ml.length < 1000000) (r' v' : Sv) (u : MState) (hu : StOk r' v' u) (x w n t : Int) (t0 : 0 ≤ t) (k1 : zg1 m = false) (k2 : zd6 ⟨rl, ml, pc, cy⟩ = false) (k3 : zd6 u = false) : zaq Tryz.prog (om Tryz.prog) 3 [zac m, stV r v ⟨rl, ml, pc, cy⟩, stV r' v' u, .int .i64 x, .int .i64 w, .int .i64 n, .int .u64 t] ⟨0, []⟩ = some (.bool true, ⟨0, []⟩) := by
 have hS := zl4 k1
 have h8 : NOk8 m := yaa0 hS hN
 have hO : MOk m := yaav h8
 have h1' := zi2 m hR r v ⟨rl, ml, pc, cy⟩
 rw [k1, k2] at h1'
 have h2' := zff r' v' u
 rw [k3] at h2'
 have A1 := yai5 r v ⟨rl, ml, pc, cy⟩ hs hr hm h1 h2
 have A2 := zt7 m hO
 have A3 := zo1 m h8
 have A4 := fun (a1 : Addr) (c1 : Nat) (a2 : Addr) (c2 : Nat) => zfk m hO ⟨some a1, c1, 1⟩ ⟨some a2, c2, 2⟩ ⟨rl, ml, pc, cy⟩ ⟨⟨fun _ => rfl, fun _ => rfl⟩, ⟨fun _ => rfl, fun _ => rfl⟩, hs.rl, hs.vl⟩
 have A5 := zdm m h8 r v ⟨rl, ml, pc, cy⟩ hs hn.n
 have A6 := fun (a1 : Addr) (c1 : Nat) (a2 : Addr) (c2 : Nat) => zgl ⟨some a1, c1, 1⟩ ⟨some a2, c2, 2⟩ r' v' ⟨rl, ml, pc, cy⟩ u ⟨⟨fun _ => rfl, fun _ => rfl⟩, ⟨fun _ => rfl, fun _ => rfl⟩, hs.rl, hs.vl⟩ hu
 have A7 := zbc r v r' v' ⟨rl, ml, pc, cy⟩ u hs hu
 have A8 := fun (a1 : Addr) (c1 : Nat) (a2 : Addr) (c2 : Nat) => zgl ⟨some a1, c1, 1⟩ ⟨some a2, c2, 2⟩ r v ⟨rl, ml, pc, cy⟩ ⟨rl, ml, pc, cy⟩ ⟨⟨fun _ => rfl, fun _ => rfl⟩, ⟨fun _ => rfl, fun _ => rfl⟩, hs.rl, hs.vl⟩ hs
 have C := yana m hO h8 r v rl ml pc cy hs hn hr h1 hm h2 x w n t t0
 simp only [zac, zad, stV, zbs, List.map_nil, zbd, Bool.or_self] at h1' h2' A1 A4 A5 A6 A7 A8 C
 unfold newV at A2 A3
 rw [yae6 _ _ (by simp)]
 cases z : decide (zb1 m = 0) with
 | true =>
  have A9 := fun (a1 : Addr) (c1 : Nat) (a2 : Addr) (c2 : Nat) => zbc ⟨some a1, c1, 1⟩ ⟨none, 0, 0⟩ ⟨some a2, c2, 1⟩ ⟨none, 0, 0⟩ ⟨zl (za1 m).length, [], 0, 0⟩ ⟨zl (za1 m).length, [], 0, 0⟩ (zok hO.b) (zok hO.b)
  simp only [z, cond_true, zac, zad, zbs, zu1, stV, List.map_nil, zbd] at A2 A3 A9
  simp (maxSteps := 1000000) -implicitDefEqProofs only [↓reduceIte, ↓cond_true, ↓cond_false, sr1, sr2, kA, seval, zh9, n3, zic, zid, zie, e3, d3a, zsw, yanh, zac, zad, stV, List.map_nil, h1', h2', A1, A2, A3, A4, A5, A6, A7, A8, A9, C, bneq, zb0, zb4, zc3, zb3, zbb, zbp, zb2, zay, zbn, zbo, za2 zoq zo8, inlB_some agU szU, zan, zat, za5, zb5, zaw, zaj, zam, zap, zav, za8, zci, zb7, Nat.sub_zero, zbk, zax]
 | false =>
  have A9 := zbc ⟨none, 0, 0⟩ ⟨none, 0, 0⟩ ⟨none, 0, 0⟩ ⟨none, 0, 0⟩ ⟨[], [], 0, 0⟩ ⟨[], [], 0, 0⟩ eok eok
  simp only [z, cond_false, zac, zad, zbs, stV, List.map_nil, zbd] at A2 A3 A9
  simp (maxSteps := 1000000) -implicitDefEqProofs only [↓reduceIte, ↓cond_true, ↓cond_false, sr1, sr2, kA, seval, zh9, n3, zic, zid, zie, e3, d3a, zac, zad, stV, List.map_nil, h1', h2', A1, A2, A3, A4, A5, A6, A7, A8, A9, C, bneq, zb0, zb4, zc3, zb3, zbb, zbp, zb2, zay, zbn, zbo, za2 zoq zo8, inlB_some agU szU, zan, zat, za5, zb5, zaw, zaj, zam, zap, zav, za8, zci, zb7, Nat.sub_zero, zbk, zax]
theorem yazv (m : MMach) (hR : RawM m) (hN : NumM m) (r v : Sv) (rl : List Int) (pc cy : Int) (hs : StOk r v ⟨rl, [], pc, cy⟩) (hn : StNum2 ⟨rl, [], pc, cy⟩) (hr : rl ≠ []) (h1 : rl.length < 1000000) (r' v' : Sv) (u : MState) (hu : StOk r' v' u) (x w n t : Int) (t0 : 0 ≤ t) (k1 : zg1 m = false) (k2 : zd6 ⟨rl, [], pc, cy⟩ = false) (k3 : zd6 u = false) : zaq Tryz.prog (om Tryz.prog) 3 [zac m, stV r v ⟨rl, [], pc, cy⟩, stV r' v' u, .int .i64 x, .int .i64 w, .int .i64 n, .int .u64 t] ⟨0, []⟩ = some (.bool true, ⟨0, []⟩) := by
 have hS := zl4 k1
 have h8 : NOk8 m := yaa0 hS hN
 have hO : MOk m := yaav h8
 have h1' := zi2 m hR r v ⟨rl, [], pc, cy⟩
 rw [k1, k2] at h1'
 have h2' := zff r' v' u
 rw [k3] at h2'
 have A1 := yai4 r v ⟨rl, [], pc, cy⟩ hs hr rfl h1
 have A2 := zt7 m hO
 have A3 := zo1 m h8
 have A4 := fun (a1 : Addr) (c1 : Nat) => zfk m hO ⟨some a1, c1, 1⟩ ⟨none, 0, 0⟩ ⟨rl, [], pc, cy⟩ ⟨⟨fun _ => rfl, fun _ => rfl⟩, ⟨fun h => absurd h (Nat.lt_irrefl 0), fun h => absurd h (Nat.lt_irrefl 0)⟩, hs.rl, hs.vl⟩
 have A5 := zdm m h8 r v ⟨rl, [], pc, cy⟩ hs hn.n
 have A6 := fun (a1 : Addr) (c1 : Nat) => zgl ⟨some a1, c1, 1⟩ ⟨none, 0, 0⟩ r' v' ⟨rl, [], pc, cy⟩ u ⟨⟨fun _ => rfl, fun _ => rfl⟩, ⟨fun h => absurd h (Nat.lt_irrefl 0), fun h => absurd h (Nat.lt_irrefl 0)⟩, hs.rl, hs.vl⟩ hu
 have A7 := zbc r v r' v' ⟨rl, [], pc, cy⟩ u hs hu
 have A8 := fun (a1 : Addr) (c1 : Nat) => zgl ⟨some a1, c1, 1⟩ ⟨none, 0, 0⟩ r v ⟨rl, [], pc, cy⟩ ⟨rl, [], pc, cy⟩ ⟨⟨fun _ => rfl, fun _ => rfl⟩, ⟨fun h => absurd h (Nat.lt_irrefl 0), fun h => absurd h (Nat.lt_irrefl 0)⟩, hs.rl, hs.vl⟩ hs
 have C := yam9 m hO h8 r v rl pc cy hs hn hr h1 x w n t t0
 simp only [zac, zad, stV, zbs, List.map_nil, zbd, Bool.or_self] at h1' h2' A1 A4 A5 A6 A7 A8 C
 unfold newV at A2 A3
 rw [yae6 _ _ (by simp)]
 cases z : decide (zb1 m = 0) with
 | true =>
  have A9 := fun (a1 : Addr) (c1 : Nat) (a2 : Addr) (c2 : Nat) => zbc ⟨some a1, c1, 1⟩ ⟨none, 0, 0⟩ ⟨some a2, c2, 1⟩ ⟨none, 0, 0⟩ ⟨zl (za1 m).length, [], 0, 0⟩ ⟨zl (za1 m).length, [], 0, 0⟩ (zok hO.b) (zok hO.b)
  simp only [z, cond_true, zac, zad, zbs, zu1, stV, List.map_nil, zbd] at A2 A3 A9
  simp (maxSteps := 1000000) -implicitDefEqProofs only [↓reduceIte, ↓cond_true, ↓cond_false, sr1, sr2, kA, seval, zh9, n3, zic, zid, zie, e3, d3a, zsw, yanh, zac, zad, stV, List.map_nil, h1', h2', A1, A2, A3, A4, A5, A6, A7, A8, A9, C, bneq, zb0, zb4, zc3, zb3, zbb, zbp, zb2, zay, zbn, zbo, za2 zoq zo8, inlB_some agU szU, zan, zat, za5, zb5, zaw, zaj, zam, zap, zav, za8, zci, zb7, Nat.sub_zero, zbk, zax]
 | false =>
  have A9 := zbc ⟨none, 0, 0⟩ ⟨none, 0, 0⟩ ⟨none, 0, 0⟩ ⟨none, 0, 0⟩ ⟨[], [], 0, 0⟩ ⟨[], [], 0, 0⟩ eok eok
  simp only [z, cond_false, zac, zad, zbs, stV, List.map_nil, zbd] at A2 A3 A9
  simp (maxSteps := 1000000) -implicitDefEqProofs only [↓reduceIte, ↓cond_true, ↓cond_false, sr1, sr2, kA, seval, zh9, n3, zic, zid, zie, e3, d3a, zac, zad, stV, List.map_nil, h1', h2', A1, A2, A3, A4, A5, A6, A7, A8, A9, C, bneq, zb0, zb4, zc3, zb3, zbb, zbp, zb2, zay, zbn, zbo, za2 zoq zo8, inlB_some agU szU, zan, zat, za5, zb5, zaw, zaj, zam, zap, zav, za8, zci, zb7, Nat.sub_zero, zbk, zax]
theorem yazu (m : MMach) (hR : RawM m) (hN : NumM m) (r v : Sv) (ml : List MCell) (pc cy : Int) (hs : StOk r v ⟨[], ml, pc, cy⟩) (hn : StNum2 ⟨[], ml, pc, cy⟩) (hm : ml ≠ []) (h2 : ml.length < 1000000) (r' v' : Sv) (u : MState) (hu : StOk r' v' u) (x w n t : Int) (t0 : 0 ≤ t) (k1 : zg1 m = false) (k2 : zd6 ⟨[], ml, pc, cy⟩ = false) (k3 : zd6 u = false) : zaq Tryz.prog (om Tryz.prog) 3 [zac m, stV r v ⟨[], ml, pc, cy⟩, stV r' v' u, .int .i64 x, .int .i64 w, .int .i64 n, .int .u64 t] ⟨0, []⟩ = some (.bool true, ⟨0, []⟩) := by
 have hS := zl4 k1
 have h8 : NOk8 m := yaa0 hS hN
 have hO : MOk m := yaav h8
 have h1' := zi2 m hR r v ⟨[], ml, pc, cy⟩
 rw [k1, k2] at h1'
 have h2' := zff r' v' u
 rw [k3] at h2'
 have A1 := yai3 r v ⟨[], ml, pc, cy⟩ hs rfl hm h2
 have A2 := zt7 m hO
 have A3 := zo1 m h8
 have A4 := fun (a2 : Addr) (c2 : Nat) => zfk m hO ⟨none, 0, 0⟩ ⟨some a2, c2, 2⟩ ⟨[], ml, pc, cy⟩ ⟨⟨fun h => absurd h (Nat.lt_irrefl 0), fun h => absurd h (Nat.lt_irrefl 0)⟩, ⟨fun _ => rfl, fun _ => rfl⟩, hs.rl, hs.vl⟩
 have A5 := zdm m h8 r v ⟨[], ml, pc, cy⟩ hs hn.n
 have A6 := fun (a2 : Addr) (c2 : Nat) => zgl ⟨none, 0, 0⟩ ⟨some a2, c2, 2⟩ r' v' ⟨[], ml, pc, cy⟩ u ⟨⟨fun h => absurd h (Nat.lt_irrefl 0), fun h => absurd h (Nat.lt_irrefl 0)⟩, ⟨fun _ => rfl, fun _ => rfl⟩, hs.rl, hs.vl⟩ hu
 have A7 := zbc r v r' v' ⟨[], ml, pc, cy⟩ u hs hu
 have A8 := fun (a2 : Addr) (c2 : Nat) => zgl ⟨none, 0, 0⟩ ⟨some a2, c2, 2⟩ r v ⟨[], ml, pc, cy⟩ ⟨[], ml, pc, cy⟩ ⟨⟨fun h => absurd h (Nat.lt_irrefl 0), fun h => absurd h (Nat.lt_irrefl 0)⟩, ⟨fun _ => rfl, fun _ => rfl⟩, hs.rl, hs.vl⟩ hs
 have C := yam8 m hO h8 r v ml pc cy hs hn hm h2 x w n t t0
 simp only [zac, zad, stV, zbs, List.map_nil, zbd, Bool.or_self] at h1' h2' A1 A4 A5 A6 A7 A8 C
 unfold newV at A2 A3
 rw [yae6 _ _ (by simp)]
 cases z : decide (zb1 m = 0) with
 | true =>
  have A9 := fun (a1 : Addr) (c1 : Nat) (a2 : Addr) (c2 : Nat) => zbc ⟨some a1, c1, 1⟩ ⟨none, 0, 0⟩ ⟨some a2, c2, 1⟩ ⟨none, 0, 0⟩ ⟨zl (za1 m).length, [], 0, 0⟩ ⟨zl (za1 m).length, [], 0, 0⟩ (zok hO.b) (zok hO.b)
  simp only [z, cond_true, zac, zad, zbs, zu1, stV, List.map_nil, zbd] at A2 A3 A9
  simp (maxSteps := 1000000) -implicitDefEqProofs only [↓reduceIte, ↓cond_true, ↓cond_false, sr1, sr2, kA, seval, zh9, n3, zic, zid, zie, e3, d3a, zsw, yanh, zac, zad, stV, List.map_nil, h1', h2', A1, A2, A3, A4, A5, A6, A7, A8, A9, C, bneq, zb0, zb4, zc3, zb3, zbb, zbp, zb2, zay, zbn, zbo, za2 zoq zo8, inlB_some agU szU, zan, zat, za5, zb5, zaw, zaj, zam, zap, zav, za8, zci, zb7, Nat.sub_zero, zbk, zax]
 | false =>
  have A9 := zbc ⟨none, 0, 0⟩ ⟨none, 0, 0⟩ ⟨none, 0, 0⟩ ⟨none, 0, 0⟩ ⟨[], [], 0, 0⟩ ⟨[], [], 0, 0⟩ eok eok
  simp only [z, cond_false, zac, zad, zbs, stV, List.map_nil, zbd] at A2 A3 A9
  simp (maxSteps := 1000000) -implicitDefEqProofs only [↓reduceIte, ↓cond_true, ↓cond_false, sr1, sr2, kA, seval, zh9, n3, zic, zid, zie, e3, d3a, zac, zad, stV, List.map_nil, h1', h2', A1, A2, A3, A4, A5, A6, A7, A8, A9, C, bneq, zb0, zb4, zc3, zb3, zbb, zbp, zb2, zay, zbn, zbo, za2 zoq zo8, inlB_some agU szU, zan, zat, za5, zb5, zaw, zaj, zam, zap, zav, za8, zci, zb7, Nat.sub_zero, zbk, zax]
theorem yazt (m : MMach) (hR : RawM m) (hN : NumM m) (r v : Sv) (pc cy : Int) (hs : StOk r v ⟨[], [], pc, cy⟩) (hn : StNum2 ⟨[], [], pc, cy⟩) (r' v' : Sv) (u : MState) (hu : StOk r' v' u) (x w n t : Int) (t0 : 0 ≤ t) (k1 : zg1 m = false) (k2 : zd6 ⟨[], [], pc, cy⟩ = false) (k3 : zd6 u = false) : zaq Tryz.prog (om Tryz.prog) 3 [zac m, stV r v ⟨[], [], pc, cy⟩, stV r' v' u, .int .i64 x, .int .i64 w, .int .i64 n, .int .u64 t] ⟨0, []⟩ = some (.bool true, ⟨0, []⟩) := by
 have hS := zl4 k1
 have h8 : NOk8 m := yaa0 hS hN
 have hO : MOk m := yaav h8
 have h1' := zi2 m hR r v ⟨[], [], pc, cy⟩
 rw [k1, k2] at h1'
 have h2' := zff r' v' u
 rw [k3] at h2'
 have A1 := yai2 r v ⟨[], [], pc, cy⟩ hs rfl rfl
 have A2 := zt7 m hO
 have A3 := zo1 m h8
 have A4 := zfk m hO ⟨none, 0, 0⟩ ⟨none, 0, 0⟩ ⟨[], [], pc, cy⟩ ⟨⟨fun h => absurd h (Nat.lt_irrefl 0), fun h => absurd h (Nat.lt_irrefl 0)⟩, ⟨fun h => absurd h (Nat.lt_irrefl 0), fun h => absurd h (Nat.lt_irrefl 0)⟩, hs.rl, hs.vl⟩
 have A5 := zdm m h8 r v ⟨[], [], pc, cy⟩ hs hn.n
 have A6 := zgl ⟨none, 0, 0⟩ ⟨none, 0, 0⟩ r' v' ⟨[], [], pc, cy⟩ u ⟨⟨fun h => absurd h (Nat.lt_irrefl 0), fun h => absurd h (Nat.lt_irrefl 0)⟩, ⟨fun h => absurd h (Nat.lt_irrefl 0), fun h => absurd h (Nat.lt_irrefl 0)⟩, hs.rl, hs.vl⟩ hu
 have A7 := zbc r v r' v' ⟨[], [], pc, cy⟩ u hs hu
 have A8 := zgl ⟨none, 0, 0⟩ ⟨none, 0, 0⟩ r v ⟨[], [], pc, cy⟩ ⟨[], [], pc, cy⟩ ⟨⟨fun h => absurd h (Nat.lt_irrefl 0), fun h => absurd h (Nat.lt_irrefl 0)⟩, ⟨fun h => absurd h (Nat.lt_irrefl 0), fun h => absurd h (Nat.lt_irrefl 0)⟩, hs.rl, hs.vl⟩ hs
 have C := yam7 m hO h8 r v pc cy hs hn x w n t t0
 simp only [zac, zad, stV, zbs, List.map_nil, zbd, Bool.or_self] at h1' h2' A1 A4 A5 A6 A7 A8 C
 unfold newV at A2 A3
 rw [yae6 _ _ (by simp)]
 cases z : decide (zb1 m = 0) with
 | true =>
  have A9 := fun (a1 : Addr) (c1 : Nat) (a2 : Addr) (c2 : Nat) => zbc ⟨some a1, c1, 1⟩ ⟨none, 0, 0⟩ ⟨some a2, c2, 1⟩ ⟨none, 0, 0⟩ ⟨zl (za1 m).length, [], 0, 0⟩ ⟨zl (za1 m).length, [], 0, 0⟩ (zok hO.b) (zok hO.b)
  simp only [z, cond_true, zac, zad, zbs, zu1, stV, List.map_nil, zbd] at A2 A3 A9
  simp (maxSteps := 1000000) -implicitDefEqProofs only [↓reduceIte, ↓cond_true, ↓cond_false, sr1, sr2, kA, seval, zh9, n3, zic, zid, zie, e3, d3a, zsw, yanh, zac, zad, stV, List.map_nil, h1', h2', A1, A2, A3, A4, A5, A6, A7, A8, A9, C, bneq, zb0, zb4, zc3, zb3, zbb, zbp, zb2, zay, zbn, zbo, za2 zoq zo8, inlB_some agU szU, zan, zat, za5, zb5, zaw, zaj, zam, zap, zav, za8, zci, zb7, Nat.sub_zero, zbk, zax]
 | false =>
  have A9 := zbc ⟨none, 0, 0⟩ ⟨none, 0, 0⟩ ⟨none, 0, 0⟩ ⟨none, 0, 0⟩ ⟨[], [], 0, 0⟩ ⟨[], [], 0, 0⟩ eok eok
  simp only [z, cond_false, zac, zad, zbs, stV, List.map_nil, zbd] at A2 A3 A9
  simp (maxSteps := 1000000) -implicitDefEqProofs only [↓reduceIte, ↓cond_true, ↓cond_false, sr1, sr2, kA, seval, zh9, n3, zic, zid, zie, e3, d3a, zac, zad, stV, List.map_nil, h1', h2', A1, A2, A3, A4, A5, A6, A7, A8, A9, C, bneq, zb0, zb4, zc3, zb3, zbb, zbp, zb2, zay, zbn, zbo, za2 zoq zo8, inlB_some agU szU, zan, zat, za5, zb5, zaw, zaj, zam, zap, zav, za8, zci, zb7, Nat.sub_zero, zbk, zax]
theorem yatl (m : MMach) (hR : RawM m) (hN : NumM m) (r v r' v' : Sv) (s u : MState) (hs : StOk r v s) (hn : StNum s) (hb : BOk s.mem) (hu : StOk r' v' u) (x w n t : Int) (t0 : 0 ≤ t) : zaq Tryz.prog (om Tryz.prog) 3 [zac m, stV r v s, stV r' v' u, .int .i64 x, .int .i64 w, .int .i64 n, .int .u64 t] ⟨0, []⟩ = some (.bool true, ⟨0, []⟩) := by
 by_cases k1 : zg1 m = true
 ·exact zp9 m hR r v r' v' s u x w n t (.inl k1)
 by_cases k2 : zd6 s = true
 ·exact zp9 m hR r v r' v' s u x w n t (.inr (.inl k2))
 by_cases k3 : zd6 u = true
 ·exact zp9 m hR r v r' v' s u x w n t (.inr (.inr k3))
 rw [Bool.not_eq_true] at k1 k2 k3
 have gs := yaf1 k2
 have hn2 : StNum2 s := ⟨hn, hb, by omega⟩
 obtain ⟨rl, ml, pc, cy⟩ := s
 simp only at gs
 by_cases er : rl = []
 ·subst er
  by_cases em : ml = []
  ·subst em
   exact yazt m hR hN r v pc cy hs hn2 r' v' u hu x w n t t0 k1 k2 k3
  ·exact yazu m hR hN r v ml pc cy hs hn2 em (by omega) r' v' u hu x w n t t0 k1 k2 k3
 ·by_cases em : ml = []
  ·subst em
   exact yazv m hR hN r v rl pc cy hs hn2 er (by omega) r' v' u hu x w n t t0 k1 k2 k3
  ·exact yazw m hR hN r v rl ml pc cy hs hn2 er (by omega) em (by omega) r' v' u hu x w n t t0 k1 k2 k3
end Go.Proofs.YtcfcphhamfhfcaaGreatDoor.v
