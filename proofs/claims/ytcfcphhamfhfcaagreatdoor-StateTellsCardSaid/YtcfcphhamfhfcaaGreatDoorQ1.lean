/- What the law's proof leans on, part 20. Conditions: in each statement. -/
import Derived.Test.YtcfcphhamfhfcaaGreatDoorQC2
import Derived.Test.YtcfcphhamfhfcaaGreatDoorQC3
import Derived.Test.YtcfcphhamfhfcaaGreatDoorQC4
import Derived.Test.YtcfcphhamfhfcaaGreatDoorQC5
import Derived.Test.YtcfcphhamfhfcaaGreatDoorQVX
set_option linter.all false
namespace Go.Proofs.YtcfcphhamfhfcaaGreatDoor.v
open Go Go.Ab
set_option maxRecDepth 100000
set_option linter.unusedSimpArgs false
set_option linter.unusedVariables false
theorem agI : zd8 Tryz.prog 3 = some false := by kernel_rfl
theorem szI : zbl Tryz.prog 3 = some 1 := by kernel_rfl
theorem agS : zd8 Tryz.prog 9 = some false := by kernel_rfl
theorem szS : zbl Tryz.prog 9 = some 1 := by kernel_rfl
structure Pl where
 a : Addr
 z : Bool
 cap : Nat
def slA {α : Type} (p : Pl) (l : List α) : Option Addr := if l.isEmpty && p.z then none else some p.a
theorem ya3c {α : Type} {p : Pl} {l : List α} {i : Nat} (h : i < l.length) : slA p l = some p.a := by
 cases l with
 | nil => cases h
 | cons x l => rfl
theorem zab {α β : Type} {p : Pl} {l : List α} {f : α → β} : okS (slA p l) (l.map f) = true := by
 cases l with
 | nil => simp [okS]
 | cons x l => rfl
def zb9 (p : Nat → Bool) (i n : Nat) : Bool := (List.range' i (n - i)).all p
theorem zba {p : Nat → Bool} {n : Nat} : zb9 p n n = true := by simp [zb9]
theorem zbr {p : Nat → Bool} {i n : Nat} (h : i < n) : zb9 p i n = (p i && zb9 p (i + 1) n) := by
 unfold zb9
 rw [show n - i = (n - (i + 1)) + 1 by omega, List.range'_succ, List.all_cons]
theorem zbe {p : Nat → Bool} {i n : Nat} : zb9 p i n = true ↔ ∀ j, i ≤ j → j < n → p j = true := by
 simp only [zb9, List.all_eq_true, List.mem_range'_1]
 constructor
 ·intro h j h1 h2; exact h j ⟨h1, by omega⟩
 ·intro h j hj; exact h j hj.1 (by omega)
theorem yakl {α : Type} {a b : Bool} {x y : α} : (bif a && b then x else y) = bif a then (bif b then x else y) else y := by cases a <;> rfl
theorem yasy {α : Type} {a b : Bool} {x y : α} : (bif a || b then x else y) = bif a then x else (bif b then x else y) := by cases a <;> rfl
theorem ze7 {α β : Type} {l : List α} {i : Nat} {p : α → Bool} {A B : β} (h : i < l.length) : (bif (l.drop i).all (fun x => !p x) then A else B) = bif p l[i] then B else (bif (l.drop (i + 1)).all (fun x => !p x) then A else B) := by
 rw [List.drop_eq_getElem_cons h, List.all_cons]; cases p l[i] <;> rfl
theorem ya2f {α β : Type} {l : List α} {i : Nat} {p : α → Bool} {A B : β} (h : i < l.length) : (bif (l.drop i).any p then A else B) = bif p l[i] then A else (bif (l.drop (i + 1)).any p then A else B) := by
 rw [List.drop_eq_getElem_cons h, List.any_cons]; cases p l[i] <;> rfl
theorem zc5 {β : Type} {i n : Nat} {p : Nat → Bool} {A B : β} (h : i < n) : (bif zb9 (fun x => !p x) i n then A else B) = bif p i then B else (bif zb9 (fun x => !p x) (i + 1) n then A else B) := by
 rw [zbr h]; cases p i <;> rfl
structure MReg where
 name : ByteArray
 width : Int
 of_ : Int
 low : Int
structure MBank where
 name : ByteArray
 p : Pl
 regs : List Int
structure MUn where
 name : ByteArray
 count : Int
structure MPiece where
 at_ : Int
 len : Int
structure MOpd where
 name : ByteArray
 kind : Int
 bank : Int
 scale : Int
 p : Pl
 pieces : List MPiece
 tied : Int
inductive MTerm where
 | mk (kind width bits : Int) (name : ByteArray) (low : Int) (p : Pl) (sub : List MTerm)
structure MEff where
 kind : Int
 operand : Int
 reg : Int
 addr : MTerm
 value : MTerm
 cond : MTerm
structure MInstr where
 name : ByteArray
 mask : Int
 mat : Int
 po : Pl
 operands : List MOpd
 pe : Pl
 effects : List MEff
 unit : Int
 busy : Int
 latency : Int
 slots : Int
structure MMach where
 name : ByteArray
 word : Int
 address : Int
 pr : Pl
 regs : List MReg
 pb : Pl
 banks : List MBank
 pu : Pl
 units : List MUn
 pi : Pl
 instrs : List MInstr
def zei (r : MReg) : AV := .agg [.str r.name, .int .i64 r.width, .int .i64 r.of_, .int .i64 r.low]
def zdt (n : Int) : AV := .int .i64 n
def zem (b : MBank) : AV := .agg [.str b.name, .rsl (slA b.p b.regs) b.p.cap 1 (b.regs.map zdt)]
def unV (u : MUn) : AV := .agg [.str u.name, .int .i64 u.count]
def zgh (x : MPiece) : AV := .agg [.int .i64 x.at_, .int .i64 x.len]
def zbj (o : MOpd) : AV := .agg [.str o.name, .int .u8 o.kind, .int .i64 o.bank, .int .i64 o.scale, .rsl (slA o.p o.pieces) o.p.cap 2 (o.pieces.map zgh), .int .i64 o.tied]
mutual
def MTerm.cs : MTerm → List AV
 | .mk k w b n l p sub => [.int .u8 k, .int .i64 w, .int .u64 b, .str n, .int .i64 l, .rsl (slA p sub) p.cap 6 (MTerm.csL sub)]
def MTerm.csL : List MTerm → List AV
 | [] => []
 | t :: l => .agg t.cs :: MTerm.csL l
end
def zag (t : MTerm) : AV := .agg t.cs
theorem zpu : ∀ l : List MTerm, MTerm.csL l = l.map zag
 | [] => rfl
 | t :: l => by rw [MTerm.csL, zpu l]; rfl
def effC (x : MEff) : List AV := [.int .u8 x.kind, .int .i64 x.operand, .int .i64 x.reg] ++ x.addr.cs ++ x.value.cs ++ x.cond.cs
def zu4 (x : MEff) : AV := .agg (effC x)
def zaf (s : MInstr) : AV := .agg [.str s.name, .int .u64 s.mask, .int .u64 s.mat, .rsl (slA s.po s.operands) s.po.cap 6 (s.operands.map zbj), .rsl (slA s.pe s.effects) s.pe.cap 21 (s.effects.map zu4), .int .i64 s.unit, .int .i64 s.busy, .int .i64 s.latency, .int .i64 s.slots]
abbrev zad (m : MMach) : List AV := [.str m.name, .int .i64 m.word, .int .i64 m.address, .rsl (slA m.pr m.regs) m.pr.cap 4 (m.regs.map zei), .rsl (slA m.pb m.banks) m.pb.cap 2 (m.banks.map zem), .rsl (slA m.pu m.units) m.pu.cap 2 (m.units.map unV), .rsl (slA m.pi m.instrs) m.pi.cap 9 (m.instrs.map zaf)]
def zac (m : MMach) : AV := .agg (zad m)
theorem ya6i (t : MTerm) : t.cs.length = 6 := by cases t; rfl
theorem sr2 :
  (type_of% (@yaow)) ∧
  (type_of% (@inlT.eq_1)) ∧
  (type_of% (@condKey.eq_1)) ∧
  (type_of% (@Heap.empty.eq_1)) ∧
  (type_of% (@undefA.eq_1)) ∧
  (type_of% (@Nat.zero_add)) ∧
  (type_of% (@Nat.add_zero)) ∧
  (type_of% (@List.getElem?_cons_succ.{0})) ∧
  (type_of% (@List.getElem?_cons_zero.{0})) ∧
  (type_of% (@List.length_cons.{0})) ∧
  (type_of% (@List.length_nil.{0})) ∧
  (type_of% (@List.cons_append.{0})) ∧
  (type_of% (@List.nil_append.{0})) ∧
  (type_of% (@List.append_nil.{0})) ∧
  (type_of% (@List.drop_succ_cons.{0})) ∧
  (type_of% (@List.drop_zero.{0})) ∧
  (type_of% (@List.take_succ_cons.{0})) ∧
  (type_of% (@List.take_zero.{0})) ∧
  (type_of% (@List.take_nil.{0})) ∧
  (type_of% (@List.drop_nil.{0})) ∧
  (type_of% (@List.set_cons_zero.{0})) ∧
  (type_of% (@List.set_cons_succ.{0})) ∧
  (type_of% (@List.map_cons.{0,0})) ∧
  (type_of% (@List.map_nil.{0,0})) ∧
  (type_of% (@List.contains_cons.{0})) ∧
  (type_of% (@List.contains_nil.{0})) ∧
  (type_of% (@List.all_cons.{0})) ∧
  (type_of% (@List.all_nil.{0})) ∧
  (type_of% (@List.range_zero)) ∧
  (type_of% (@List.range_succ)) ∧
  (type_of% (@List.getD_cons_zero.{0})) ∧
  (type_of% (@List.getD_cons_succ.{0})) ∧
  (type_of% (@List.flatMap_nil.{0,0})) ∧
  (type_of% (@List.flatMap_cons.{0,0})) ∧
  (type_of% (@List.filter_nil.{0})) ∧
  (type_of% (@List.filter_cons.{0})) ∧
  (type_of% (@Option.bind_some.{0,0})) ∧
  (type_of% (@Option.map_some.{0,0})) ∧
  (type_of% (@Option.map_none.{0,0})) ∧
  (type_of% (@if_true.{1})) ∧
  (type_of% (@if_false.{1})) ∧
  (type_of% (@ite_self.{1})) ∧
  (type_of% (@decide_true)) ∧
  (type_of% (@decide_false)) ∧
  (type_of% (@Bool.false_eq_true)) ∧
  (type_of% (@Bool.not_true)) ∧
  (type_of% (@Bool.not_false)) ∧
  (type_of% (@beq_self_eq_true.{0})) ∧
  (type_of% (@Bool.true_and)) ∧
  (type_of% (@Bool.and_true)) ∧
  (type_of% (@Bool.and_self)) ∧
  (type_of% (@Bool.false_and)) ∧
  (type_of% (@Bool.and_false)) ∧
  (type_of% (@Bool.true_or)) ∧
  (type_of% (@Bool.or_true)) ∧
  (type_of% (@Bool.false_or)) ∧
  (type_of% (@Bool.or_false)) ∧
  (type_of% (@Bool.or_self)) ∧
  (type_of% (@and_true)) ∧
  (type_of% (@true_and)) ∧
  (type_of% (@and_self)) ∧
  (type_of% (@and_false)) ∧
  (type_of% (@false_and)) ∧
  (type_of% (@or_true)) ∧
  (type_of% (@true_or)) ∧
  (type_of% (@or_false)) ∧
  (type_of% (@false_or)) ∧
  (type_of% (@implies_true.{1})) ∧
  (type_of% (@Nat.mul_one)) ∧
  (type_of% (@Nat.zero_mul)) ∧
  (type_of% (@Nat.one_mul)) ∧
  (type_of% (@List.length_map.{0,0})) ∧
  (type_of% (@Int.cast_ofNat_Int)) ∧
  (type_of% (@Int.natCast_zero)) ∧
  (type_of% (@Int.natCast_one)) ∧
  (type_of% (@ne_eq.{1})) ∧
  (type_of% (@not_false_eq_true)) ∧
  (type_of% (@not_true_eq_false)) ∧
  (type_of% (@Int.toNat_zero)) ∧
  (type_of% (@Int.le_refl)) ∧
  (type_of% (@List.getElem_cons_zero.{0})) ∧
  (type_of% (@List.getElem_cons_succ.{0})) ∧
  (type_of% (@agI)) ∧
  (type_of% (@agS)) ∧
  (type_of% (@szI)) ∧
  (type_of% (@szS)) ∧
  (type_of% (@wi_1)) ∧
  (type_of% (@wi_2)) ∧
  (type_of% (@Nat.le_refl)) ∧
  (type_of% (@zv8)) ∧
  (type_of% (@yaf6)) ∧
  (type_of% (@yaf7)) ∧
  (type_of% (@getD_some)) ∧
  (type_of% (@yaor)) ∧
  (type_of% (@ya1d)) ∧
  (type_of% (@ya1e)) ∧
  (type_of% (@yagt)) ∧
  (type_of% (@yah9)) ∧
  (type_of% (@yaia)) ∧
  (type_of% (@yapq)) ∧
  (type_of% (@yapr)) ∧
  (type_of% (@zsp)) ∧
  (type_of% (@zso)) ∧
  (type_of% (@yaqu)) ∧
  (type_of% (@zr4)) ∧
  (type_of% (@zzr)) ∧
  (type_of% (@all_nil)) ∧
  (type_of% (@all_cons)) ∧
  (type_of% (@yaen)) ∧
  (type_of% (@zzk)) ∧
  (type_of% (@yaer)) ∧
  (type_of% (@yaeq)) ∧
  (type_of% (@zzn)) ∧
  (type_of% (@yaep)) ∧
  (type_of% (@yan2)) ∧
  (type_of% (@yael)) ∧
  (type_of% (@yaes)) ∧
  (type_of% (@zzl)) ∧
  (type_of% (@yaeo)) ∧
  (type_of% (@zzm)) ∧
  (type_of% (@zzg)) ∧
  (type_of% (@zzi)) ∧
  (type_of% (@zw2)) ∧
  (type_of% (@yabh)) ∧
  (type_of% (@zwl)) ∧
  (type_of% (@yah2)) ∧
  (type_of% (@List.length_append.{0})) ∧
  (type_of% (@List.map_append.{0,0})) ∧
  (type_of% (@yazm)) ∧
  (type_of% (@yagk)) ∧
  (type_of% (@yazo)) ∧
  (type_of% (@yaoy)) ∧
  (type_of% (@yazq)) ∧
  (type_of% (@yazh)) ∧
  (type_of% (@yao5)) ∧
  (type_of% (@yao6)) ∧
  (type_of% (@yapb)) ∧
  (type_of% (@yao4)) ∧
  (type_of% (@yao7)) ∧
  (type_of% (@yaoz)) ∧
  (type_of% (@yapa)) ∧
  (type_of% (@yao0)) ∧
  (type_of% (@yao1)) ∧
  (type_of% (@yao9)) ∧
  (type_of% (@yao8)) ∧
  (type_of% (@yazi)) ∧
  (type_of% (@yagj)) ∧
  (type_of% (@yagi)) ∧
  (type_of% (@yao3)) ∧
  (type_of% (@yazj)) ∧
  (type_of% (@yapc)) ∧
  (type_of% (@yapd)) ∧
  (type_of% (@yao2)) ∧
  (type_of% (@yazn)) ∧
  (type_of% (@yazk)) ∧
  (type_of% (@yazp)) ∧
  (type_of% (@yagh)) ∧
  (type_of% (@yaap)) ∧
  (type_of% (@yaox)) ∧
  (type_of% (@yazl)) ∧
  (type_of% (@yaph)) ∧
  (type_of% (@yaaq)) ∧
  (type_of% (@zwi)) ∧
  (type_of% (@yagl)) ∧
  (type_of% (@yapg)) ∧
  (type_of% (@ul_0)) ∧
  (type_of% (@ul_1)) ∧
  (type_of% (@ul_2)) ∧
  (type_of% (@ul_3)) ∧
  (type_of% (@yazr)) ∧
  (type_of% (@yazs)) ∧
  (type_of% (@yaal)) ∧
  (type_of% (@yapu)) ∧
  (type_of% (@yaaf)) ∧
  (type_of% (@zz4)) ∧
  (type_of% (@yaa6)) ∧
  (type_of% (@yap2)) ∧
  (type_of% (@yap0)) ∧
  (type_of% (@yap1)) ∧
  (type_of% (@yapz)) ∧
  (type_of% (@yabo)) ∧
  (type_of% (@yabm)) ∧
  (type_of% (@yabl)) ∧
  (type_of% (@yabn)) ∧
  (type_of% (@ya1b)) ∧
  (type_of% (@ya1c)) ∧
  (type_of% (@ya08)) ∧
  (type_of% (@ya09)) ∧
  (type_of% (@ya07)) ∧
  (type_of% (@yabs)) ∧
  (type_of% (@yabr)) ∧
  (type_of% (@ya04)) ∧
  (type_of% (@yabq)) ∧
  (type_of% (@yabp)) ∧
  (type_of% (@yahk)) ∧
  (type_of% (@yaa7)) ∧
  (type_of% (@zpn)) ∧
  (type_of% (@zz7)) ∧
  (type_of% (@zls)) ∧
  (type_of% (@zkj)) ∧
  (type_of% (@yaaa)) ∧
  (type_of% (@yaad)) ∧
  (type_of% (@zp0)) ∧
  (type_of% (@zr7)) ∧
  (type_of% (@zvh)) ∧
  (type_of% (@zvf)) ∧
  (type_of% (@zzv)) ∧
  (type_of% (@zva)) ∧
  (type_of% (@zzq)) ∧
  (type_of% (@yapv)) ∧
  (type_of% (@yapf)) ∧
  (type_of% (@ul_free)) ∧
  (type_of% (@yaom)) ∧
  (type_of% (@yafq)) ∧
  (type_of% (@yabj)) ∧
  (type_of% (@yabc)) ∧
  (type_of% (@zr6)) ∧
  (type_of% (@zvg)) :=
 ⟨@yaow, @inlT.eq_1, @condKey.eq_1, @Heap.empty.eq_1, @undefA.eq_1, @Nat.zero_add, @Nat.add_zero, @List.getElem?_cons_succ.{0}, @List.getElem?_cons_zero.{0}, @List.length_cons.{0}, @List.length_nil.{0}, @List.cons_append.{0}, @List.nil_append.{0}, @List.append_nil.{0}, @List.drop_succ_cons.{0}, @List.drop_zero.{0}, @List.take_succ_cons.{0}, @List.take_zero.{0}, @List.take_nil.{0}, @List.drop_nil.{0}, @List.set_cons_zero.{0}, @List.set_cons_succ.{0}, @List.map_cons.{0,0}, @List.map_nil.{0,0}, @List.contains_cons.{0}, @List.contains_nil.{0}, @List.all_cons.{0}, @List.all_nil.{0}, @List.range_zero, @List.range_succ, @List.getD_cons_zero.{0}, @List.getD_cons_succ.{0}, @List.flatMap_nil.{0,0}, @List.flatMap_cons.{0,0}, @List.filter_nil.{0}, @List.filter_cons.{0}, @Option.bind_some.{0,0}, @Option.map_some.{0,0}, @Option.map_none.{0,0}, @if_true.{1}, @if_false.{1}, @ite_self.{1}, @decide_true, @decide_false, @Bool.false_eq_true, @Bool.not_true, @Bool.not_false, @beq_self_eq_true.{0}, @Bool.true_and, @Bool.and_true, @Bool.and_self, @Bool.false_and, @Bool.and_false, @Bool.true_or, @Bool.or_true, @Bool.false_or, @Bool.or_false, @Bool.or_self, @and_true, @true_and, @and_self, @and_false, @false_and, @or_true, @true_or, @or_false, @false_or, @implies_true.{1}, @Nat.mul_one, @Nat.zero_mul, @Nat.one_mul, @List.length_map.{0,0}, @Int.cast_ofNat_Int, @Int.natCast_zero, @Int.natCast_one, @ne_eq.{1}, @not_false_eq_true, @not_true_eq_false, @Int.toNat_zero, @Int.le_refl, @List.getElem_cons_zero.{0}, @List.getElem_cons_succ.{0}, @agI, @agS, @szI, @szS, @wi_1, @wi_2, @Nat.le_refl, @zv8, @yaf6, @yaf7, @getD_some, @yaor, @ya1d, @ya1e, @yagt, @yah9, @yaia, @yapq, @yapr, @zsp, @zso, @yaqu, @zr4, @zzr, @all_nil, @all_cons, @yaen, @zzk, @yaer, @yaeq, @zzn, @yaep, @yan2, @yael, @yaes, @zzl, @yaeo, @zzm, @zzg, @zzi, @zw2, @yabh, @zwl, @yah2, @List.length_append.{0}, @List.map_append.{0,0}, @yazm, @yagk, @yazo, @yaoy, @yazq, @yazh, @yao5, @yao6, @yapb, @yao4, @yao7, @yaoz, @yapa, @yao0, @yao1, @yao9, @yao8, @yazi, @yagj, @yagi, @yao3, @yazj, @yapc, @yapd, @yao2, @yazn, @yazk, @yazp, @yagh, @yaap, @yaox, @yazl, @yaph, @yaaq, @zwi, @yagl, @yapg, @ul_0, @ul_1, @ul_2, @ul_3, @yazr, @yazs, @yaal, @yapu, @yaaf, @zz4, @yaa6, @yap2, @yap0, @yap1, @yapz, @yabo, @yabm, @yabl, @yabn, @ya1b, @ya1c, @ya08, @ya09, @ya07, @yabs, @yabr, @ya04, @yabq, @yabp, @yahk, @yaa7, @zpn, @zz7, @zls, @zkj, @yaaa, @yaad, @zp0, @zr7, @zvh, @zvf, @zzv, @zva, @zzq, @yapv, @yapf, @ul_free, @yaom, @yafq, @yabj, @yabc, @zr6, @zvg⟩
def chs (s : ByteArray) (i : Nat) : Int := ((s.data.toList.getD i 0).toNat : Int)
def yapj (c : Int) : Bool := decide (97 ≤ c) && decide (c ≤ 122) || decide (65 ≤ c) && decide (c ≤ 90)
def yae9 (s : ByteArray) (i : Nat) : Bool := !yapj (chs s i) && (decide ((i : Int) = 0) || !decide (chs s i = 95) && (decide (chs s i < 48) || decide (57 < chs s i)))
def zbm (s : ByteArray) : Bool := !(decide ((s.size : Int) < 1) || decide (24 < (s.size : Int))) && zb9 (fun i => !yae9 s i) 0 s.size
theorem yap3 (s : ByteArray) (i : Nat) (h : i < s.size) : sixA (.str s) (.int .i64 i) = some (.int .u8 (chs s i)) := by
 have e : i < s.data.toList.length := by simpa using h
 unfold sixA chs
 simp only [Int.natCast_nonneg, if_true, Int.toNat_natCast, List.getElem?_eq_getElem e, List.getD_eq_getElem?_getD, Option.getD_some]
theorem yat4 (s : ByteArray) (hs : s.size < 2 ^ 62) : ∀ i, i ≤ s.size →
  om Tryz.prog ⟨86, none⟩ 0 (.loop (lpb Tryz.f86 0)) ⟨⟨55, [(0, .str s), (15, .int .i64 s.size), (16, .int .i64 i)]⟩, [], ⟨0, []⟩⟩ =
   bif zb9 (fun i => !yae9 s i) i s.size then some (.exit 0, ⟨⟨55, [(0, .str s), (15, .int .i64 s.size), (16, .int .i64 s.size), (17, .bool false)]⟩, [], ⟨0, []⟩⟩) else some (.ret, ⟨⟨55, [(2, .bool false)]⟩, [], ⟨0, []⟩⟩) := by
 refine zb8 ?_ (fun i h ih => ?_) <;> rw [zae]
 ·simp -implicitDefEqProofs only [↓reduceIte, ↓cond_true, ↓cond_false, sr1, sr2, kA, seval, d86, n86, yat3, e86, zba]
 ·rw [zc5 h]
  simp -implicitDefEqProofs only [↓reduceIte, ↓cond_true, ↓cond_false, sr1, sr2, kA, seval, d86, n86, yat3, e86, dlt_t h, wi_nat (show i < 2 ^ 62 by omega), h, yap3 s i h, ih]
  rfl
theorem zoz (s : ByteArray) (hs : s.size < 2 ^ 62) : zaq Tryz.prog (om Tryz.prog) 86 [.str s] ⟨0, []⟩ = some (.bool (zbm s), ⟨0, []⟩) := by
 rw [yax1 _ _ (by simp)]
 have L := yat4 s hs 0 (Nat.zero_le _)
 simp only [Int.natCast_zero] at L
 simp -implicitDefEqProofs only [↓reduceIte, ↓cond_true, ↓cond_false, sr1, sr2, kA, seval, d86, n86, yat3, e86, L, zbm]
def yaoh (s : ByteArray) (i : Nat) : Bool := !yapj (chs s i) && (decide ((i : Int) = 0) || !(decide (48 ≤ chs s i) && decide (chs s i ≤ 57) || decide (chs s i = 95)))
theorem yafa (s : ByteArray) (i : Nat) : yaoh s i = yae9 s i := by
 unfold yaoh yae9
 congr 2
 generalize chs s i = c
 by_cases h1 : c = 95 <;> by_cases h2 : 48 ≤ c <;> by_cases h3 : c ≤ 57 <;> simp [h1, h2, h3] <;> omega
theorem yal6 (s : ByteArray) (hs : s.size < 2 ^ 62) : ∀ i, i ≤ s.size →
  om Tryz.prog ⟨77, none⟩ 0 (.loop (lpb Tryz.f77 0)) ⟨⟨58, [(0, .str s), (3, .int .i64 i)]⟩, [], ⟨0, []⟩⟩ =
   bif zb9 (fun i => !yae9 s i) i s.size then some (.exit 0, ⟨⟨58, [(0, .str s), (3, .int .i64 s.size), (18, .bool false)]⟩, [], ⟨0, []⟩⟩) else some (.ret, ⟨⟨58, [(2, .bool false)]⟩, [], ⟨0, []⟩⟩) := by
 refine zb8 ?_ (fun i h ih => ?_) <;> rw [zae]
 ·simp -implicitDefEqProofs only [↓reduceIte, ↓cond_true, ↓cond_false, sr1, sr2, kA, seval, d77, n77, yat2, e77, zba]
 ·rw [zc5 h, ← yafa s i]
  simp -implicitDefEqProofs only [↓reduceIte, ↓cond_true, ↓cond_false, sr1, sr2, kA, seval, d77, n77, yat2, e77, dlt_t h, wi_nat (show i < 2 ^ 62 by omega), h, yap3 s i h, ih]
  rfl
theorem zed (s : ByteArray) (hs : s.size < 2 ^ 62) : zaq Tryz.prog (om Tryz.prog) 77 [.str s] ⟨0, []⟩ = some (.bool (zbm s), ⟨0, []⟩) := by
 rw [yaxs _ _ (by simp)]
 have L := yal6 s hs 0 (Nat.zero_le _)
 simp only [Int.natCast_zero] at L
 have hz : decide ((s.size : Int) < 1) = decide ((s.size : Int) = 0) := by by_cases h : s.size = 0 <;> simp [h]; omega
 simp -implicitDefEqProofs only [↓reduceIte, ↓cond_true, ↓cond_false, sr1, sr2, kA, seval, d77, n77, yat2, e77, L, zbm, hz]
def inR (x a b : Int) : Bool := decide (a ≤ x) && decide (x ≤ b)
theorem zal (x a b : Int) : zaq Tryz.prog (om Tryz.prog) 87 [.int .i64 x, .int .i64 a, .int .i64 b] ⟨0, []⟩ = some (.bool (inR x a b), ⟨0, []⟩) := by
 rw [yax2 _ _ (by simp)]
 simp (maxSteps := 1000000) -implicitDefEqProofs only [↓reduceIte, ↓cond_true, ↓cond_false, sr1, sr2, kA, seval, d87, n87, inR]
theorem za3 (x a b : Int) : zaq Tryz.prog (om Tryz.prog) 78 [.int .i64 x, .int .i64 a, .int .i64 b] ⟨0, []⟩ = some (.bool (inR x a b), ⟨0, []⟩) := by
 rw [yaxt _ _ (by simp)]
 simp (maxSteps := 1000000) -implicitDefEqProofs only [↓reduceIte, ↓cond_true, ↓cond_false, sr1, sr2, kA, seval, d78, n78, inR]
theorem yaum (n : Nat) (hn : n ≤ 62) : ∀ i, i ≤ n → lim (some [3]) 0 (blk 0 (om Tryz.prog ⟨153, none⟩ 0 (.loop (lpb Tryz.f153 0)) ⟨⟨13, [(0, .int .i64 n), (3, .int .i64 (2 ^ i : Nat)), (4, .int .i64 i)]⟩, [], ⟨0, []⟩⟩)) = some (.normal, ⟨⟨13, [(3, .int .i64 (2 ^ n : Nat))]⟩, [], ⟨0, []⟩⟩) := by
 refine zb8 ?_ (fun i h ih => ?_) <;> rw [zae]
 ·simp (maxSteps := 1000000) -implicitDefEqProofs only [↓reduceIte, ↓cond_true, ↓cond_false, sr1, sr2, kA, seval, d153, n153, e153]
 ·have h1 : (2 : Nat) ^ (i + 1) ≤ 2 ^ 62 := Nat.pow_le_pow_right (by omega) (by omega)
  have h2 : (2 : Nat) ^ (i + 1) = 2 * 2 ^ i := by rw [Nat.pow_succ, Nat.mul_comm]
  have h3 : IntKind.i64.wrap (2 * ((2 ^ i : Nat) : Int)) = ((2 ^ (i + 1) : Nat) : Int) := by rw [zjp (by omega) (by omega)]; omega
  simp (maxSteps := 1000000) -implicitDefEqProofs only [↓reduceIte, ↓cond_true, ↓cond_false, sr1, sr2, kA, seval, d153, n153, e153, dlt_t h, wi_nat (show i < 2 ^ 62 by omega), h3, ih]
theorem yahu (n : Nat) (hn : n ≤ 62) : zaq Tryz.prog (om Tryz.prog) 153 [.int .i64 n] ⟨0, []⟩ = some (.int .i64 (2 ^ n : Nat), ⟨0, []⟩) := by
 have L := yaum n hn 0 (Nat.zero_le _)
 rw [Nat.pow_zero, Int.natCast_zero, Int.natCast_one] at L
 rw [yarw _ _ (by simp)]
 simp (maxSteps := 1000000) -implicitDefEqProofs only [↓reduceIte, ↓cond_true, ↓cond_false, sr1, sr2, kA, seval, d153, n153, e153, L]
theorem zv7 {x : Int} (h0 : 0 ≤ x) (h1 : x < 2 ^ 64) : IntKind.u64.wrap (x.tdiv 2) = x / 2 := by
 have e : x.tdiv 2 = x / 2 := Int.tdiv_eq_ediv_of_nonneg h0
 have : IntKind.u64.wrap (x / 2) = (x / 2) % 18446744073709551616 := by simp [IntKind.wrap, IntKind.bits, IntKind.signed]
 rw [e, this]; omega
theorem yaq3 (n : Nat) (hn : n < 2 ^ 62) (x : Int) (h0 : 0 ≤ x) (h1 : x < 2 ^ 64) : ∀ i, i ≤ n → lim (some [0]) 0 (blk 0 (om Tryz.prog ⟨105, none⟩ 0 (.loop (lpb Tryz.f105 0)) ⟨⟨15, [(0, .int .u64 (x / (2 ^ i : Nat))), (1, .int .i64 n), (5, .int .i64 i)]⟩, [], ⟨0, []⟩⟩)) = some (.normal, ⟨⟨15, [(0, .int .u64 (x / (2 ^ n : Nat)))]⟩, [], ⟨0, []⟩⟩) := by
 refine zb8 ?_ (fun i h ih => ?_) <;> rw [zae]
 ·simp (maxSteps := 1000000) -implicitDefEqProofs only [↓reduceIte, ↓cond_true, ↓cond_false, sr1, sr2, kA, seval, d105, n105, e105]
 ·have h2 : IntKind.u64.wrap ((x / (2 ^ i : Nat)).tdiv 2) = x / (2 ^ (i + 1) : Nat) := by
   have p : (1 : Int) ≤ (2 ^ i : Nat) := by have := Nat.one_le_two_pow (n := i); omega
   have q : 0 ≤ x / (2 ^ i : Nat) := Int.ediv_nonneg h0 (by omega)
   have r : x / (2 ^ i : Nat) ≤ x := Int.ediv_le_self _ h0
   rw [zv7 q (by omega), Int.ediv_ediv_of_nonneg (by omega), Nat.pow_succ]; push_cast; rfl
  have h3 : (2 : Int) ≠ 0 := by decide
  simp (maxSteps := 1000000) -implicitDefEqProofs only [↓reduceIte, ↓cond_true, ↓cond_false, sr1, sr2, kA, seval, d105, n105, e105, dlt_t h, wi_nat (show i < 2 ^ 62 by omega), h2, ih, in_quo h3]
theorem zvc (n : Nat) (hn : n < 2 ^ 62) (x : Int) (h0 : 0 ≤ x) (h1 : x < 2 ^ 64) : zaq Tryz.prog (om Tryz.prog) 105 [.int .u64 x, .int .i64 n] ⟨0, []⟩ = some (.bool (decide (x / (2 ^ n : Nat) = 0)), ⟨0, []⟩) := by
 have L := yaq3 n hn x h0 h1 0 (Nat.zero_le _)
 rw [Nat.pow_zero, Int.natCast_zero, Int.natCast_one, Int.ediv_one] at L
 rw [yarf _ _ (by simp)]
 simp (maxSteps := 1000000) -implicitDefEqProofs only [↓reduceIte, ↓cond_true, ↓cond_false, sr1, sr2, kA, seval, d105, n105, e105, L]
theorem ya3e (n : Nat) (hn : n < 2 ^ 62) (x : Int) (h0 : 0 ≤ x) (h1 : x < 2 ^ 64) : ∀ i, i ≤ n → lim (some [0]) 0 (blk 0 (om Tryz.prog ⟨106, none⟩ 0 (.loop (lpb Tryz.f106 0)) ⟨⟨16, [(0, .int .u64 (x / (2 ^ i : Nat))), (1, .int .i64 n), (5, .int .i64 i)]⟩, [], ⟨0, []⟩⟩)) = some (.normal, ⟨⟨16, [(0, .int .u64 (x / (2 ^ n : Nat)))]⟩, [], ⟨0, []⟩⟩) := by
 refine zb8 ?_ (fun i h ih => ?_) <;> rw [zae]
 ·simp (maxSteps := 1000000) -implicitDefEqProofs only [↓reduceIte, ↓cond_true, ↓cond_false, sr1, sr2, kA, seval, d106, n106, e106]
 ·have h2 : IntKind.u64.wrap ((x / (2 ^ i : Nat)).tdiv 2) = x / (2 ^ (i + 1) : Nat) := by
   have p : (1 : Int) ≤ (2 ^ i : Nat) := by have := Nat.one_le_two_pow (n := i); omega
   have q : 0 ≤ x / (2 ^ i : Nat) := Int.ediv_nonneg h0 (by omega)
   have r : x / (2 ^ i : Nat) ≤ x := Int.ediv_le_self _ h0
   rw [zv7 q (by omega), Int.ediv_ediv_of_nonneg (by omega), Nat.pow_succ]; push_cast; rfl
  have h3 : (2 : Int) ≠ 0 := by decide
  simp (maxSteps := 1000000) -implicitDefEqProofs only [↓reduceIte, ↓cond_true, ↓cond_false, sr1, sr2, kA, seval, d106, n106, e106, dlt_t h, wi_nat (show i < 2 ^ 62 by omega), h2, ih, in_quo h3]
def zu3 (x : Int) (n : Nat) : Int := x / (2 ^ n : Nat) % 2
theorem zs8 (n : Nat) (hn : n < 2 ^ 62) (x : Int) (h0 : 0 ≤ x) (h1 : x < 2 ^ 64) : zaq Tryz.prog (om Tryz.prog) 106 [.int .u64 x, .int .i64 n] ⟨0, []⟩ = some (.int .i64 (zu3 x n), ⟨0, []⟩) := by
 have L := ya3e n hn x h0 h1 0 (Nat.zero_le _)
 rw [Nat.pow_zero, Int.natCast_zero, Int.natCast_one, Int.ediv_one] at L
 rw [yarg _ _ (by simp)]
 have h3 : (2 : Int) ≠ 0 := by decide
 have h4 : IntKind.i64.wrap ((x / (2 ^ n : Nat)).tmod 2) = zu3 x n := by
  have p : (1 : Int) ≤ (2 ^ n : Nat) := by have := Nat.one_le_two_pow (n := n); omega
  have q : 0 ≤ x / (2 ^ n : Nat) := Int.ediv_nonneg h0 (by omega)
  rw [Int.tmod_eq_emod_of_nonneg q, zjp (by omega) (by omega)]; rfl
 simp (maxSteps := 1000000) -implicitDefEqProofs only [↓reduceIte, ↓cond_true, ↓cond_false, sr1, sr2, kA, seval, d106, n106, e106, L, in_rem h3, h4]
theorem zvk (n : Int) : zaq Tryz.prog (om Tryz.prog) 103 [.int .i64 n] ⟨0, []⟩ = some (.bool (inR n 1 64), ⟨0, []⟩) := by
 rw [yard _ _ (by simp)]
 simp (maxSteps := 1000000) -implicitDefEqProofs only [↓reduceIte, ↓cond_true, ↓cond_false, sr1, sr2, kA, seval, d103, n103, inR]
def zcb (n : Int) : Int := if inR n 1 64 then 18446744073709551615 / (2 ^ (64 - n).toNat : Nat) else 0
theorem zhq (n : Int) : zaq Tryz.prog (om Tryz.prog) 58 [.int .i64 n] ⟨0, []⟩ = some (.int .u64 (zcb n), ⟨0, []⟩) := by
 have L := zvk n
 rw [yaxl _ _ (by simp)]
 cases h : inR n 1 64 with
 | false => simp (maxSteps := 1000000) -implicitDefEqProofs only [↓reduceIte, ↓cond_true, ↓cond_false, sr1, sr2, kA, seval, d58, n58, L, h, zcb]
 | true =>
  have hn : 1 ≤ n ∧ n ≤ 64 := by simpa [inR] using h
  have h1 : zdp .shr .u64 18446744073709551615 (IntKind.i64.wrap (64 - n)) = some (.int .u64 (zcb n)) := by
   rw [zjp (by omega) (by omega)]
   unfold zdp zcb
   rw [if_neg (by omega), h]
   simp only [if_true]
   rw [Int.fdiv_eq_ediv_of_nonneg _ (by have : (0 : Int) < 2 ^ min (64 - n).toNat IntKind.u64.bits := Int.pow_pos (by decide); omega)]
   rw [show min (64 - n).toNat IntKind.u64.bits = (64 - n).toNat from Nat.min_eq_left (show (64 - n).toNat ≤ 64 by omega)]
   push_cast; rfl
  simp (maxSteps := 1000000) -implicitDefEqProofs only [↓reduceIte, ↓cond_true, ↓cond_false, sr1, sr2, kA, seval, d58, n58, L, h, h1]
theorem ya4r {α : Type} {f : α → AV} {l : List α} {i : Nat} (h : i < l.length) : (l.map f)[i]? = some (f l[i]) := by simp [h]
theorem yats {α : Type} {f : α → AV} {l : List α} {i : Nat} (h : i < (l.map f).length) : (l.map f)[i] = f (l[i]'(by simpa using h)) := by simp
theorem ix_sl {α : Type} {f : α → AV} {a : Option Addr} {c sz i : Nat} {l : List α} {k : IntKind} (ha : okS a (l.map f) = true) (h : i < l.length) : ixA sz (.rsl a c sz (l.map f)) (.int k (i : Int)) = some (.rptr (adr a (i * sz)) (f l[i]).cells) := by
 rw [ix_r ha (by simpa using h), yats]
theorem ix_z {α : Type} {f : α → AV} {a : Option Addr} {c sz : Nat} {n : Int} {l : List α} {k : IntKind} (ha : okS a (l.map f) = true) (h0 : 0 ≤ n) (h : n.toNat < l.length) : ixA sz (.rsl a c sz (l.map f)) (.int k n) = some (.rptr (adr a (n.toNat * sz)) (f l[n.toNat]).cells) := by
 obtain ⟨i, rfl⟩ := Int.eq_ofNat_of_zero_le h0
 simp only [Int.toNat_natCast] at h ⊢
 exact ix_sl ha h
def zn2 (a : Int) (l : List MPiece) : Int := l.foldl (fun a p => IntKind.i64.wrap (a + p.len)) a
def zdx (o : MOpd) : Int := zn2 0 o.pieces
theorem zpy {a : Int} {l : List MPiece} {i : Nat} (h : i < l.length) : zn2 a (l.drop i) = zn2 (IntKind.i64.wrap (a + l[i].len)) (l.drop (i + 1)) := by
 rw [List.drop_eq_getElem_cons h]; rfl
theorem zsb {a : Int} {l : List MPiece} : zn2 a (l.drop l.length) = a := by rw [List.drop_length]; rfl
theorem yatc (o : MOpd) (ho : o.pieces.length < 2 ^ 62) : ∀ i, i ≤ o.pieces.length → ∀ a (H : Heap), lim (some [2]) 0 (blk 0 (om Tryz.prog ⟨160, none⟩ 0 (.loop (lpb Tryz.f160 0)) ⟨⟨18, [(2, .int .i64 a), (6, .rsl (slA o.p o.pieces) o.p.cap 2 (o.pieces.map zgh)), (7, .int .i64 o.pieces.length), (8, .int .i64 i)]⟩, [], H⟩)) = some (.normal, ⟨⟨18, [(2, .int .i64 (zn2 a (o.pieces.drop i)))]⟩, [], ⟨0, []⟩⟩) := by
 refine zb8 (fun a H => ?_) (fun i h ih a H => ?_) <;> rw [zae]
 ·simp (maxSteps := 1000000) -implicitDefEqProofs only [↓reduceIte, ↓cond_true, ↓cond_false, sr1, sr2, kA, seval, d160, n160, e160, zsb]
 ·simp (maxSteps := 1000000) -implicitDefEqProofs only [↓reduceIte, ↓cond_true, ↓cond_false, sr1, sr2, kA, seval, d160, n160, e160, dlt_t h, wi_nat (show i < 2 ^ 62 by omega), ix_sl zab h, zgh, ih, zpy h]
theorem yafr (o : MOpd) (ho : o.pieces.length < 2 ^ 62) : zaq Tryz.prog (om Tryz.prog) 160 [zbj o] ⟨0, []⟩ = some (.int .i64 (zdx o), ⟨0, []⟩) := by
 have L := fun H => yatc o ho 0 (Nat.zero_le _) 0 H
 simp only [Int.natCast_zero, List.drop_zero] at L
 rw [yar2 _ _ (by simp)]
 simp (maxSteps := 1000000) -implicitDefEqProofs only [↓reduceIte, ↓cond_true, ↓cond_false, sr1, sr2, kA, seval, d160, n160, e160, zbj, L, zdx]
abbrev opdH (o : MOpd) : Heap := ⟨1, [some (.cells 116 [.str o.name, .int .u8 o.kind, .int .i64 o.bank, .int .i64 o.scale, .rsl (slA o.p o.pieces) o.p.cap 2 (o.pieces.map zgh), .int .i64 o.tied])]⟩
theorem yaku (o : MOpd) (ho : o.pieces.length < 2 ^ 62) : ∀ i, i ≤ o.pieces.length → ∀ a, lim (some [3]) 0 (blk 0 (om Tryz.prog ⟨152, none⟩ 0 (.loop (lpb Tryz.f152 0)) ⟨⟨21, [(1, .ptr 0 0), (3, .int .i64 a), (4, .int .i64 i)]⟩, [], opdH o⟩)) = some (.normal, ⟨⟨21, [(3, .int .i64 (zn2 a (o.pieces.drop i)))]⟩, [], ⟨0, []⟩⟩) := by
 refine zb8 (fun a => ?_) (fun i h ih a => ?_) <;> rw [zae]
 ·simp (maxSteps := 1000000) -implicitDefEqProofs only [↓reduceIte, ↓cond_true, ↓cond_false, sr1, sr2, kA, seval, d152, n152, e152, zsb, opdH]
 ·simp (maxSteps := 1000000) -implicitDefEqProofs only [↓reduceIte, ↓cond_true, ↓cond_false, sr1, sr2, kA, seval, d152, n152, e152, opdH, dlt_t h, wi_nat (show i < 2 ^ 62 by omega), ix_sl zab h, zgh, ih, zpy h]
theorem yacm (o : MOpd) (ho : o.pieces.length < 2 ^ 62) : zaq Tryz.prog (om Tryz.prog) 152 [zbj o] ⟨0, []⟩ = some (.int .i64 (zdx o), ⟨0, []⟩) := by
 have L := yaku o ho 0 (Nat.zero_le _) 0
 simp only [Int.natCast_zero, List.drop_zero] at L
 rw [yarv _ _ (by simp)]
 simp (maxSteps := 1000000) -implicitDefEqProofs only [↓reduceIte, ↓cond_true, ↓cond_false, sr1, sr2, kA, seval, d152, n152, e152, zbj, L, zdx]
def zhv (w : Int) (x : MPiece) : Bool := !inR x.len 1 (IntKind.i64.wrap (8 * w)) || !inR x.at_ 0 (IntKind.i64.wrap (IntKind.i64.wrap (8 * w) - x.len))
def zmo (w : Int) (o : MOpd) : Bool := o.pieces.all fun x => !zhv w x
theorem yadd (o : MOpd) (w : Int) (ho : o.pieces.length < 2 ^ 62) : ∀ i, i ≤ o.pieces.length → lim (some []) 0 (blk 0 (om Tryz.prog ⟨151, none⟩ 0 (.loop (lpb Tryz.f151 0)) ⟨⟨36, [(1, .int .i64 w), (2, .ptr 0 0), (5, .int .i64 i)]⟩, [], opdH o⟩)) = bif (o.pieces.drop i).all (fun x => !zhv w x) then some (.normal, ⟨⟨36, []⟩, [], ⟨0, []⟩⟩) else some (.ret, ⟨⟨36, [(4, .bool false)]⟩, [], ⟨0, []⟩⟩) := by
 refine zb8 ?_ (fun i h ih => ?_) <;> rw [zae]
 ·simp (maxSteps := 1000000) -implicitDefEqProofs only [↓reduceIte, ↓cond_true, ↓cond_false, sr1, sr2, kA, seval, d151, n151, e151, opdH, List.drop_length]
 ·rw [ze7 h]
  simp (maxSteps := 1000000) -implicitDefEqProofs only [↓reduceIte, ↓cond_true, ↓cond_false, sr1, sr2, kA, seval, d151, n151, e151, opdH, dlt_t h, wi_nat (show i < 2 ^ 62 by omega), ix_sl zab h, zgh, ih, za3]
  rfl
theorem zwu (o : MOpd) (w : Int) (ho : o.pieces.length < 2 ^ 62) : zaq Tryz.prog (om Tryz.prog) 151 [zbj o, .int .i64 w] ⟨0, []⟩ = some (.bool (zmo w o), ⟨0, []⟩) := by
 have L := yadd o w ho 0 (Nat.zero_le _)
 simp only [Int.natCast_zero, List.drop_zero] at L
 rw [yaru _ _ (by simp)]
 simp (maxSteps := 1000000) -implicitDefEqProofs only [↓reduceIte, ↓cond_true, ↓cond_false, sr1, sr2, kA, seval, d151, n151, e151, zbj, L, zmo]
def zn3 (l : List ByteArray) (s : ByteArray) : Bool := l.any fun x => decide (s = x)
def idxF (s : ByteArray) : List ByteArray → Nat → Int
 | [], _ => -1
 | x :: l, i => bif decide (s = x) then (i : Int) else idxF s l (i + 1)
theorem yaf9 {s : ByteArray} {l : List ByteArray} {i : Nat} (h : i < l.length) : idxF s (l.drop i) i = bif decide (s = l[i]) then (i : Int) else idxF s (l.drop (i + 1)) (i + 1) := by
 rw [List.drop_eq_getElem_cons h]; rfl
theorem yaam {s : ByteArray} : ∀ {l : List ByteArray} {i : Nat}, decide (0 ≤ idxF s l i) = zn3 l s
 | [], i => rfl
 | x :: l, i => by
  simp only [idxF, zn3, List.any_cons]
  by_cases e : s = x
  ·simp only [e, decide_true, cond_true, Bool.true_or]; exact decide_eq_true (by omega)
  ·simp only [e, decide_false, cond_false, Bool.false_or]; exact yaam
theorem yath (a : Option Addr) (c : Nat) (l : List ByteArray) (s : ByteArray) (ha : okS a (l.map AV.str) = true) (hl : l.length < 2 ^ 62) : ∀ i, i ≤ l.length → nxt (lim (some []) 0 (blk 0 (om Tryz.prog ⟨159, none⟩ 0 (.loop (lpb Tryz.f159 0)) ⟨⟨19, [(0, .rsl a c 1 (l.map .str)), (1, .str s), (7, .int .i64 l.length), (8, .int .i64 i)]⟩, [], ⟨0, []⟩⟩))) (Ox Tryz.prog ⟨159, none⟩ 0 (.seq (za9 Tryz.f159 7) .ret)) = some (.ret, ⟨⟨19, [(4, .int .i64 (idxF s (l.drop i) i))]⟩, [], ⟨0, []⟩⟩) := by
 refine zb8 ?_ (fun i h ih => ?_) <;> rw [zae]
 ·simp (maxSteps := 1000000) -implicitDefEqProofs only [↓reduceIte, ↓cond_true, ↓cond_false, sr1, sr2, kA, seval, d159, n159, e159, List.drop_length, idxF]
 ·simp (maxSteps := 1000000) -implicitDefEqProofs only [↓reduceIte, ↓cond_true, ↓cond_false, sr1, sr2, kA, seval, d159, n159, e159, dlt_t h, wi_nat (show i < 2 ^ 62 by omega), ix_sl ha h, ih, yaf9 h]
theorem yagd (a : Option Addr) (c : Nat) (l : List ByteArray) (s : ByteArray) (ha : okS a (l.map AV.str) = true) (hl : l.length < 2 ^ 62) : zaq Tryz.prog (om Tryz.prog) 159 [.rsl a c 1 (l.map .str), .str s] ⟨0, []⟩ = some (.int .i64 (idxF s l 0), ⟨0, []⟩) := by
 have L := yath a c l s ha hl 0 (Nat.zero_le _)
 simp only [Int.natCast_zero, List.drop_zero] at L
 rw [yae4 _ _ (by simp)]
 simp (maxSteps := 1000000) -implicitDefEqProofs only [↓reduceIte, ↓cond_true, ↓cond_false, sr1, sr2, kA, seval, d159, n159, e159, L]
theorem zvt (a : Option Addr) (c : Nat) (l : List ByteArray) (s : ByteArray) (ha : okS a (l.map AV.str) = true) (hl : l.length < 2 ^ 62) : zaq Tryz.prog (om Tryz.prog) 136 [.rsl a c 1 (l.map .str), .str s] ⟨0, []⟩ = some (.bool (zn3 l s), ⟨0, []⟩) := by
 rw [yae3 _ _ (by simp)]
 simp (maxSteps := 1000000) -implicitDefEqProofs only [↓reduceIte, ↓cond_true, ↓cond_false, sr1, sr2, kA, seval, d136, n136, yagd a c l s ha hl, yaam]
def zov (t : MTerm) : Bool := match t with | .mk k w b n l p sub => decide (k = 0) && decide (w = 0) && decide (b = 0) && decide (n = ByteArray.empty) && decide (l = 0) && decide ((sub.length : Int) = 0)
theorem zfu (t : MTerm) : zaq Tryz.prog (om Tryz.prog) 154 [zag t] ⟨0, []⟩ = some (.bool (zov t), ⟨0, []⟩) := by
 obtain ⟨k, w, b, n, l, p, sub⟩ := t
 rw [yarx _ _ (by simp)]
 simp (maxSteps := 1000000) -implicitDefEqProofs only [↓reduceIte, ↓cond_true, ↓cond_false, sr1, sr2, kA, seval, d154, n154, zag, MTerm.cs, zov, zpu]
def MTerm.kd : MTerm → Int | .mk k _ _ _ _ _ _ => k
def MTerm.wd : MTerm → Int | .mk _ w _ _ _ _ _ => w
def MTerm.bt : MTerm → Int | .mk _ _ b _ _ _ _ => b
def MTerm.nm : MTerm → ByteArray | .mk _ _ _ n _ _ _ => n
def MTerm.lo : MTerm → Int | .mk _ _ _ _ l _ _ => l
def MTerm.pl : MTerm → Pl | .mk _ _ _ _ _ p _ => p
def MTerm.sub : MTerm → List MTerm | .mk _ _ _ _ _ _ s => s
theorem zah (t : MTerm) : t.cs = [.int .u8 t.kd, .int .i64 t.wd, .int .u64 t.bt, .str t.nm, .int .i64 t.lo, .rsl (slA t.pl t.sub) t.pl.cap 6 (t.sub.map zag)] := by
 obtain ⟨k, w, b, n, l, p, s⟩ := t
 simp only [MTerm.cs, zpu]; rfl
mutual
def MTerm.nodes : MTerm → List MTerm
 | .mk k w b n l p sub => .mk k w b n l p sub :: MTerm.nodesL sub
def MTerm.nodesL : List MTerm → List MTerm
 | [] => []
 | t :: l => t.nodes ++ MTerm.nodesL l
end
theorem zqh : ∀ l : List MTerm, MTerm.nodesL l = l.flatMap MTerm.nodes
 | [] => rfl
 | t :: l => by rw [MTerm.nodesL, zqh l]; rfl
theorem zht (t : MTerm) : t.nodes = t :: t.sub.flatMap MTerm.nodes := by
 obtain ⟨k, w, b, n, l, p, s⟩ := t
 rw [MTerm.nodes, zqh]; rfl
def MTerm.sz (t : MTerm) : Nat := t.nodes.length
def szL (l : List MTerm) : Nat := (l.flatMap MTerm.nodes).length
theorem zus (t : MTerm) : t.sz = szL t.sub + 1 := by unfold MTerm.sz szL; rw [zht]; rfl
theorem yair : szL [] = 0 := rfl
theorem zfc (t : MTerm) (l : List MTerm) : szL (t :: l) = t.sz + szL l := by simp [szL, MTerm.sz]
theorem yaqa {t : MTerm} : ∀ {l : List MTerm}, t ∈ l → t.sz ≤ szL l
 | [], h => by cases h
 | x :: l, h => by
  rw [zfc]
  rcases List.mem_cons.1 h with rfl | h
  ·omega
  ·have := yaqa h; omega
theorem zk3 {t x : MTerm} (h : x ∈ t.sub) : x.sz < t.sz := by rw [zus t]; have := yaqa h; omega
theorem yagn : ∀ l : List MTerm, l.length ≤ szL l
 | [] => by simp [szL]
 | t :: l => by rw [zfc, List.length_cons, zus]; have := yagn l; omega
theorem zfz (t : MTerm) : t.sub.length < t.sz := by rw [zus]; have := yagn t.sub; omega
theorem zda {Q : MTerm → Prop} (h : ∀ t, (∀ x ∈ t.sub, Q x) → Q t) (t : MTerm) : Q t := by
 generalize hn : t.sz = n
 induction n using Nat.strongRecOn generalizing t with
 | _ n ih =>
  exact h t fun x hx => ih x.sz (by have := zk3 hx; omega) x rfl
mutual
def MTerm.dp : MTerm → Nat
 | .mk _ _ _ _ _ _ sub => MTerm.dpL sub + 1
def MTerm.dpL : List MTerm → Nat
 | [] => 0
 | t :: l => max t.dp (MTerm.dpL l)
end
theorem yas6 (t : MTerm) : t.dp = MTerm.dpL t.sub + 1 := by obtain ⟨k, w, b, n, l, p, s⟩ := t; rw [MTerm.dp]; rfl
theorem zti (t : MTerm) (l : List MTerm) : MTerm.dpL (t :: l) = max t.dp (MTerm.dpL l) := by rw [MTerm.dpL]
theorem yayp {t : MTerm} : ∀ {l : List MTerm}, t ∈ l → t.dp ≤ MTerm.dpL l
 | [], h => by cases h
 | x :: l, h => by
  rw [zti]
  rcases List.mem_cons.1 h with rfl | h
  ·omega
  ·have := yayp h; omega
theorem yayq (t : MTerm) : t.dp ≤ t.sz := by
 refine zda (Q := fun t => t.dp ≤ t.sz) (fun t h => ?_) t
 rw [yas6, zus]
 have : ∀ l : List MTerm, (∀ x ∈ l, x.dp ≤ x.sz) → MTerm.dpL l ≤ szL l := by
  intro l
  induction l with
  | nil => intro _; simp [MTerm.dpL]
  | cons x l ih =>
   intro h
   rw [zti, zfc]
   have h1 := h x (by simp)
   have h2 := ih fun y hy => h y (by simp [hy])
   omega
 have := this t.sub h
 omega
theorem zdv {q : MTerm → Bool} (t : MTerm) : t.nodes.all q = (q t && t.sub.all fun x => x.nodes.all q) := by
 rw [zht, List.all_cons]
 congr 1
 generalize t.sub = l
 induction l with
 | nil => rfl
 | cons x l ih => rw [List.flatMap_cons, List.all_append, ih]; rfl
set_option maxRecDepth 10000
def rDot : ByteArray := ⟨#[114, 46]⟩
def zuw (s : ByteArray) : ByteArray := bif decide (2 ≤ s.size) && decide (s.extract 0 2 = rDot) then s.extract 2 s.size else s
def varB (s : ByteArray) : Bool := zbm (zuw s)
def varC (s : ByteArray) : Bool := bif decide (2 < s.size) && decide (s.extract 0 2 = rDot) then zbm (s.extract 2 s.size) else zbm s
theorem yavi (s : ByteArray) : varC s = varB s := by
 unfold varC varB zuw
 by_cases h : 2 < s.size
 ·have h2 : 2 ≤ s.size := by omega
  simp only [h, h2, decide_true, Bool.true_and]
  cases decide (s.extract 0 2 = rDot) <;> rfl
 ·by_cases h2 : 2 ≤ s.size
  ·have e : s.size = 2 := by omega
   by_cases h3 : s.extract 0 2 = rDot
   ·have e2 : s = rDot := by
     rw [← h3]
     apply ByteArray.ext
     rw [ByteArray.data_extract]
     have : s.data.size = 2 := e
     rw [← this, Array.extract_size]
    subst e2
    rfl
   ·simp [h, h2, h3]
  ·simp [h, h2]
def okB (w b : Int) : Bool := inR w 1 64 && decide (b ≤ zcb w)
def zij (t : MTerm) (i : Nat) : Int := (t.sub.map MTerm.wd).getD i 0
def howL : List Int := [0, 0, 0, 1, 1, 1, 1, 1, 1, 1, 1, 1, 1, 1, 1, 1, 2, 2, 2, 3, 4, 5, 6, 6, 7]
def partL : List Int := [0, 0, 0, 1, 1, 2, 2, 2, 2, 2, 2, 2, 2, 2, 2, 2, 2, 2, 2, 3, 2, 1, 1, 1, 1]
def howK (k : Int) : Int := howL.getD k.toNat 0
def zf4 (k : Int) : Int := partL.getD k.toNat 0
def zes (k : Int) : Bool := decide (k ≤ 24) && decide (0 < zf4 k)
def zg4 (w : Int) : Bool := decide (w = 8) || (decide (w = 16) || (decide (w = 32) || decide (w = 64)))
def zdc (t : MTerm) (how : Int) : Bool :=
 bif decide (how = 1) then t.sub.all (fun y => decide (y.wd = t.wd)) else
 bif decide (how = 2) then decide (t.wd = 1) && decide (zij t 1 = zij t 0) else
 bif decide (how = 3) then decide (zij t 0 = 1) && (decide (zij t 1 = t.wd) && decide (zij t 2 = t.wd)) else
 bif decide (how = 4) then inR (zij t 0) 1 64 && (inR (zij t 1) 1 64 && decide (IntKind.i64.wrap (zij t 0 + zij t 1) = t.wd)) else
 bif decide (how = 5) then decide (0 ≤ t.lo) && (inR (zij t 0) 1 64 && (decide (t.wd ≤ zij t 0) && decide (t.lo ≤ IntKind.i64.wrap (zij t 0 - t.wd)))) else
 bif decide (how = 6) then decide (zij t 0 ≤ t.wd) else zg4 t.wd
def zke (t : MTerm) : Bool :=
 inR t.wd 1 64 && bif zes t.kd then decide (t.bt = 0) && (decide (t.nm = ByteArray.empty) && ((decide (t.lo = 0) || decide (howK t.kd = 5)) && (decide ((t.sub.length : Int) = zf4 t.kd) && zdc t (howK t.kd))))
 else (decide ((t.sub.length : Int) = 0) && decide (t.lo = 0)) && ((decide (t.kd = 1) && (decide (t.nm = ByteArray.empty) && okB t.wd t.bt)) || (decide (t.kd = 2) && (decide (t.bt = 0) && varB t.nm)))
def zc2 (t : MTerm) : Bool := t.nodes.all zke
def zhk (t : MTerm) : Bool :=
 inR t.wd 1 64 && (
 bif decide (t.kd = 1) then decide ((t.sub.length : Int) = 0) && (decide (t.nm = ByteArray.empty) && (decide (t.lo = 0) && okB t.wd t.bt)) else
 bif decide (t.kd = 2) then decide ((t.sub.length : Int) = 0) && (decide (t.bt = 0) && (decide (t.lo = 0) && varB t.nm)) else
 bif decide (t.kd < 3) || (decide (24 < t.kd) || (!decide (t.bt = 0) || (!decide (t.nm = ByteArray.empty) || ((!decide (t.lo = 0) && !decide (t.kd = 21)) || decide ((t.sub.length : Int) = 0))))) then false else
 bif decide (t.kd = 3) || decide (t.kd = 4) then decide ((t.sub.length : Int) = 1) && decide (zij t 0 = t.wd) else
 bif decide (t.kd = 16) || (decide (t.kd = 17) || decide (t.kd = 18)) then decide ((t.sub.length : Int) = 2) && (decide (t.wd = 1) && decide (zij t 1 = zij t 0)) else
 bif decide (t.kd = 19) then decide ((t.sub.length : Int) = 3) && (decide (zij t 0 = 1) && (decide (zij t 1 = t.wd) && decide (zij t 2 = t.wd))) else
 bif decide (t.kd = 20) then decide ((t.sub.length : Int) = 2) && decide (IntKind.i64.wrap (zij t 0 + zij t 1) = t.wd) else
 bif decide (t.kd = 21) then decide ((t.sub.length : Int) = 1) && (decide (0 ≤ t.lo) && (decide (t.lo ≤ zij t 0) && decide (IntKind.i64.wrap (t.lo + t.wd) ≤ zij t 0))) else
 bif decide (t.kd = 22) || decide (t.kd = 23) then decide ((t.sub.length : Int) = 1) && decide (zij t 0 ≤ t.wd) else
 bif decide (t.kd = 24) then decide ((t.sub.length : Int) = 1) && zg4 t.wd else
 decide ((t.sub.length : Int) = 2) && (decide (zij t 0 = t.wd) && decide (zij t 1 = t.wd)))
def zep (t : MTerm) : Bool := t.nodes.all zhk
theorem ya56 {t : MTerm} (h : ∀ x ∈ t.sub, inR x.wd 1 64 = true) {i : Nat} (hi : i < t.sub.length) : 1 ≤ zij t i ∧ zij t i ≤ 64 := by
 have e : zij t i = t.sub[i].wd := by simp [zij, hi]
 have := h _ (List.getElem_mem hi)
 rw [e]
 simpa [inR] using this
theorem ya86 {l : List MTerm} {w : Int} (h : l.length = 1) : (l.all fun y => decide (y.wd = w)) = decide ((l.map MTerm.wd).getD 0 0 = w) := by
 match l, h with
 | [a], _ => simp
theorem ya87 {l : List MTerm} {w : Int} (h : l.length = 2) : (l.all fun y => decide (y.wd = w)) = (decide ((l.map MTerm.wd).getD 0 0 = w) && decide ((l.map MTerm.wd).getD 1 0 = w)) := by
 match l, h with
 | [a, b], _ => simp
theorem yag3 {t : MTerm} (hk : 0 ≤ t.kd) (h : ∀ x ∈ t.sub, inR x.wd 1 64 = true) : zke t = zhk t := by
 unfold zke zhk
 cases hw : inR t.wd 1 64 with
 | false => rfl
 | true =>
 have hw' : 1 ≤ t.wd ∧ t.wd ≤ 64 := by simpa [inR] using hw
 simp only [Bool.true_and]
 by_cases hk2 : t.kd ≤ 24
 ·have cases25 : t.kd = 0 ∨ t.kd = 1 ∨ t.kd = 2 ∨ t.kd = 3 ∨ t.kd = 4 ∨ t.kd = 5 ∨ t.kd = 6 ∨ t.kd = 7 ∨ t.kd = 8 ∨ t.kd = 9 ∨ t.kd = 10 ∨ t.kd = 11 ∨ t.kd = 12 ∨ t.kd = 13 ∨ t.kd = 14 ∨ t.kd = 15 ∨ t.kd = 16 ∨ t.kd = 17 ∨ t.kd = 18 ∨ t.kd = 19 ∨ t.kd = 20 ∨ t.kd = 21 ∨ t.kd = 22 ∨ t.kd = 23 ∨ t.kd = 24 := by omega
  have i64w : ∀ x : Int, -1000 ≤ x → x ≤ 1000 → IntKind.i64.wrap x = x := fun x h1 h2 => zjp (by omega) (by omega)
  unfold zij
  unfold zdc
  unfold zij
  generalize hs : t.sub = s at h ⊢
  generalize t.kd = k at *
  generalize t.wd = w at *
  generalize t.lo = lo at *
  match s, h with
  | [], h => rcases cases25 with e | e | e | e | e | e | e | e | e | e | e | e | e | e | e | e | e | e | e | e | e | e | e | e | e <;> subst e <;> rw [Bool.eq_iff_iff] <;> simp [zes, zf4, partL, howK, howL] <;> grind
  | [a], h =>
   have ha : 1 ≤ a.wd ∧ a.wd ≤ 64 := by simpa [inR] using h a (by simp)
   have l1 : 0 ≤ lo → lo ≤ 64 → IntKind.i64.wrap (lo + w) = lo + w := fun h1 h2 => i64w _ (by omega) (by omega)
   have l2 := i64w (a.wd - w) (by omega) (by omega)
   rcases cases25 with e | e | e | e | e | e | e | e | e | e | e | e | e | e | e | e | e | e | e | e | e | e | e | e | e <;> subst e <;> rw [Bool.eq_iff_iff] <;> simp [zes, zf4, partL, howK, howL, l2, inR] <;> grind
  | [a, b], h =>
   have ha : 1 ≤ a.wd ∧ a.wd ≤ 64 := by simpa [inR] using h a (by simp)
   have hb : 1 ≤ b.wd ∧ b.wd ≤ 64 := by simpa [inR] using h b (by simp)
   rcases cases25 with e | e | e | e | e | e | e | e | e | e | e | e | e | e | e | e | e | e | e | e | e | e | e | e | e <;> subst e <;> rw [Bool.eq_iff_iff] <;> simp [zes, zf4, partL, howK, howL, inR] <;> grind
  | [a, b, c], h => rcases cases25 with e | e | e | e | e | e | e | e | e | e | e | e | e | e | e | e | e | e | e | e | e | e | e | e | e <;> subst e <;> rw [Bool.eq_iff_iff] <;> simp [zes, zf4, partL, howK, howL] <;> grind
  | a :: b :: c :: d :: l, h =>
   have z0 : ¬ ((l.length : Int) + 1 + 1 + 1 + 1 = 0) := by omega
   have z1 : ¬ ((l.length : Int) + 1 + 1 + 1 + 1 = 1) := by omega
   have z2 : ¬ ((l.length : Int) + 1 + 1 + 1 + 1 = 2) := by omega
   have z3 : ¬ ((l.length : Int) + 1 + 1 + 1 + 1 = 3) := by omega
   rcases cases25 with e | e | e | e | e | e | e | e | e | e | e | e | e | e | e | e | e | e | e | e | e | e | e | e | e <;> subst e <;> simp [zes, zf4, partL, howK, howL, z0, z1, z2, z3]
 ·have e : ¬ t.kd < 3 := by omega
  have e0 : 24 < t.kd := by omega
  simp [zes, hk2, e0, show ¬ t.kd = 1 by omega, show ¬ t.kd = 2 by omega]
def zi7 (t : MTerm) : Prop := ∀ x ∈ t.nodes, 0 ≤ x.kd
theorem zg8 {t x y : MTerm} (hx : x ∈ t.sub) (hy : y ∈ x.nodes) : y ∈ t.nodes := by
 rw [zht]; exact List.mem_cons_of_mem _ (List.mem_flatMap.2 ⟨x, hx, hy⟩)
theorem zfy (t : MTerm) : t ∈ t.nodes := by rw [zht]; simp
theorem yafu (t : MTerm) (hk : zi7 t) : zc2 t = zep t := by
 refine zda (Q := fun t => zi7 t → zc2 t = zep t) (fun t ih hk => ?_) t hk
 unfold zc2 zep
 rw [zdv, zdv (q := zhk)]
 have e : (t.sub.all fun x => x.nodes.all zke) = (t.sub.all fun x => x.nodes.all zhk) := by
  rw [Bool.eq_iff_iff, List.all_eq_true, List.all_eq_true]
  have ih' : ∀ x ∈ t.sub, x.nodes.all zke = x.nodes.all zhk := fun x hx => ih x hx fun y hy => hk y (zg8 hx hy)
  exact ⟨fun h x hx => by rw [← ih' x hx]; exact h x hx, fun h x hx => by rw [ih' x hx]; exact h x hx⟩
 rw [e]
 cases hs : (t.sub.all fun x => x.nodes.all zhk) with
 | false => rw [Bool.and_false, Bool.and_false]
 | true =>
  rw [Bool.and_true, Bool.and_true]
  refine yag3 (hk t (zfy t)) fun x hx => ?_
  have h1 := List.all_eq_true.1 hs x hx
  have h2 := List.all_eq_true.1 h1 x (zfy x)
  unfold zhk at h2
  exact (Bool.and_eq_true_iff.1 h2).1
end Go.Proofs.YtcfcphhamfhfcaaGreatDoor.v
namespace Go.Proofs.YtcfcphhamfhfcaaGreatDoor.v
open Go Go.Ab
set_option maxRecDepth 10000
set_option linter.unusedSimpArgs false
set_option linter.unusedVariables false
abbrev Bn := ByteArray × Int
section
variable {κ : Type} [DecidableEq κ]
def zek (n : κ) : List (κ × Int) → Option Int
 | [] => none
 | x :: l => bif decide (n = x.1) then some x.2 else zek n l
def zog (n : κ) (w : Int) : List (κ × Int) → List (κ × Int)
 | [] => [(n, w)]
 | x :: l => bif decide (n = x.1) then (x.1, w) :: l else x :: zog n w l
theorem zhc {n k : κ} {w : Int} : ∀ {l : List (κ × Int)}, zek k (zog n w l) = bif decide (k = n) then some w else zek k l
 | [] => by simp only [zog, zek]
 | x :: l => by
  simp only [zog]
  by_cases h : n = x.1
  ·simp only [h, decide_true, cond_true, zek]
   by_cases h2 : k = x.1
   ·simp [h2]
   ·simp [h2]
  ·simp only [h, decide_false, cond_false, zek, zhc (l := l)]
   by_cases h2 : k = x.1
   ·have : ¬ k = n := fun e => h (by rw [← e, h2])
    simp [h2, this, show ¬ x.1 = n from fun e => h e.symm]
   ·simp [h2]
theorem yai1 {n : κ} {w : Int} : ∀ {l : List (κ × Int)}, zek n l = some w → zog n w l = l
 | [], h => by cases h
 | x :: l, h => by
  simp only [zek] at h
  simp only [zog]
  by_cases e : n = x.1
  ·simp only [e, decide_true, cond_true, Option.some.injEq] at h ⊢
   rw [← h]
  ·simp only [e, decide_false, cond_false] at h ⊢
   rw [yai1 h]
end
def zr0 : List Bn → List Bn → Bool
 | _, [] => true
 | a, x :: l => (match zek x.1 a with | some w => decide (w = x.2) | none => true) && zr0 (zog x.1 x.2 a) l
def yaye (x y : Bn) : Prop := x.1 = y.1 ∧ x.2 ≠ y.2
theorem zxf : ∀ {l a : List Bn}, zr0 a l = true ↔ ((∀ x ∈ l, ∀ w, zek x.1 a = some w → w = x.2) ∧ l.Pairwise fun x y => ¬ yaye x y)
 | [], a => by simp [zr0]
 | x :: l, a => by
  simp only [zr0, Bool.and_eq_true, zxf (l := l), List.pairwise_cons, zhc]
  constructor
  ·rintro ⟨h1, h2, h3⟩
   refine ⟨fun y hy w hw => ?_, ⟨fun y hy hc => ?_, h3⟩⟩
   ·rcases List.mem_cons.1 hy with rfl | hy
    ·rw [hw] at h1; simpa using h1
    ·by_cases e : y.1 = x.1
     ·have := h2 y hy x.2 (by simp [e])
      rw [e] at hw; rw [hw] at h1
      have h1' : w = x.2 := by simpa using h1
      rw [h1', this]
     ·exact h2 y hy w (by simp [e, hw])
   ·exact hc.2 (h2 y hy x.2 (by simp [hc.1.symm]))
  ·rintro ⟨h1, h2, h3⟩
   refine ⟨?_, fun y hy w hw => ?_, h3⟩
   ·cases hg : zek x.1 a with
    | none => rfl
    | some w => simpa using h1 x (by simp) w hg
   ·by_cases e : y.1 = x.1
    ·simp only [e, decide_true, cond_true, Option.some.injEq] at hw
     by_cases e2 : x.2 = y.2
     ·rw [← hw, e2]
     ·exact absurd ⟨e.symm, e2⟩ (h2 y hy)
    ·simp only [e, decide_false, cond_false] at hw
     exact h1 y (by simp [hy]) w hw
def bad2 (l : List Bn) (i k : Nat) : Bool := match l[k]?, l[i]? with | some x, some y => decide (x.1 = y.1) && !decide (x.2 = y.2) | _, _ => false
def yad3 (l : List Bn) : Bool := zb9 (fun i => zb9 (fun k => !bad2 l i k) 0 i) 0 l.length
theorem yaji {l : List Bn} : yad3 l = true ↔ l.Pairwise fun x y => ¬ yaye x y := by
 unfold yad3
 rw [zbe, List.pairwise_iff_getElem]
 constructor
 ·intro h i j hi hj hij hc
  have h1 := zbe.1 (h j (Nat.zero_le _) hj) i (Nat.zero_le _) hij
  simp [bad2, hi, hj, hc.1] at h1
  exact hc.2 h1
 ·intro h j _ hj
  rw [zbe]
  intro i _ hij
  have hi : i < l.length := by omega
  have := h i j hi hj hij
  simp only [bad2, List.getElem?_eq_getElem hi, List.getElem?_eq_getElem hj]
  cases hb : (decide (l[i].1 = l[j].1) && !decide (l[i].2 = l[j].2)) with
  | false => rfl
  | true =>
   simp at hb
   exact absurd ⟨hb.1, hb.2⟩ this
theorem yavk (l : List Bn) : zr0 [] l = yad3 l := by
 rw [Bool.eq_iff_iff, zxf, yaji]
 simp [zek]
def zh4 (t : MTerm) : List Bn := (t.nodes.filter fun x => decide (x.kd = 2)).map fun x => (x.nm, x.wd)
def zrz (t : MTerm) : Bool := decide ((400 : Int) < t.sz) || decide ((60 : Int) < t.dp)
def znp (t : MTerm) : Int := bif zrz t then 4 else bif !zc2 t then 8 else bif !zr0 [] (zh4 t) then 14 else 0
def zut (t : MTerm) : Int := bif zrz t then 4 else bif !zep t then 8 else bif !yad3 (zh4 t) then 14 else 0
theorem yab3 (t : MTerm) (hk : zi7 t) : zut t = znp t := by
 unfold zut znp
 rw [yafu t hk, yavk]
end Go.Proofs.YtcfcphhamfhfcaaGreatDoor.v
namespace Go.Proofs.YtcfcphhamfhfcaaGreatDoor.v
open Go Go.Ab
set_option maxRecDepth 10000
set_option linter.unusedSimpArgs false
set_option linter.unusedVariables false
section
variable {κ : Type} [DecidableEq κ]
def zk7 (mk : κ → AV) (mv : Int → AV) : Nat → List (κ × Int) → List (AV × AV × Nat)
 | _, [] => []
 | i, x :: l => (mk x.1, mv x.2, i) :: zk7 mk mv (i + 1) l
def zxp (mk : κ → AV) : Prop := ∀ a b, zdw (mk a) (mk b) = some (decide (a = b))
variable {mk : κ → AV} {mv : Int → AV}
theorem ztm (hk : zxp mk) {n : κ} {z : AV} {ok : Bool} : ∀ {l : List (κ × Int)} {i j : Nat}, lkR z ok (zex (mk n) (zk7 mk mv i l) j) = some (match zek n l with | some w => if ok then .tup [mv w, .bool true] else mv w | none => if ok then .tup [z, .bool false] else z)
 | [], i, j => rfl
 | x :: l, i, j => by
  simp only [zk7, zex, hk n x.1, zek]
  by_cases h : n = x.1
  ·simp only [h, decide_true, cond_true, lkR]
  ·simp only [h, decide_false, cond_false]
   exact ztm hk
theorem yagr (hk : zxp mk) {n : κ} {z : Int} {l : List (κ × Int)} : lkR (mv z) false (zex (mk n) (zk7 mk mv 0 l) 0) = some (mv ((zek n l).getD z)) := by
 rw [ztm hk]
 cases zek n l <;> rfl
theorem yatp (hk : zxp mk) {n : κ} {z : Int} {l : List (κ × Int)} : lkR (mv z) true (zex (mk n) (zk7 mk mv 0 l) 0) = some (.tup [mv ((zek n l).getD z), .bool (zek n l).isSome]) := by
 rw [ztm hk]
 cases zek n l <;> rfl
theorem yaae (hk : zxp mk) {n : κ} {w : Int} : ∀ {l : List (κ × Int)} {i j : Nat}, (zek n l = none ∧ zex (mk n) (zk7 mk mv i l) j = some none ∧ zog n w l = l ++ [(n, w)]) ∨
  (∃ p v, zex (mk n) (zk7 mk mv i l) j = some (some (p + j, v, p + i)) ∧ (zk7 mk mv i l).set p (mk n, mv w, p + i) = zk7 mk mv i (zog n w l) ∧ (zog n w l).length = l.length)
 | [], i, j => .inl ⟨rfl, rfl, rfl⟩
 | x :: l, i, j => by
  simp only [zk7, zex, hk n x.1, zek, zog]
  by_cases h : n = x.1
  ·right
   simp only [h, decide_true, cond_true]
   exact ⟨0, mv x.2, by simp, by simp [zk7], rfl⟩
  ·simp only [h, decide_false, cond_false]
   rcases yaae hk (n := n) (w := w) (l := l) (i := i + 1) (j := j + 1) with ⟨h1, h2, h3⟩ | ⟨p, v, h1, h2, h3⟩
   ·exact .inl ⟨h1, h2, by rw [h3]; rfl⟩
   ·refine .inr ⟨p + 1, v, ?_, ?_, by simp [h3]⟩
    ·rw [h1, show p + (j + 1) = p + 1 + j by omega, show p + (i + 1) = p + 1 + i by omega]
    ·rw [List.set_cons_succ, zk7, ← h2, show p + (i + 1) = p + 1 + i by omega]
theorem zz9 : ∀ {l : List (κ × Int)} {i : Nat} {x : κ × Int}, zk7 mk mv i (l ++ [x]) = zk7 mk mv i l ++ [(mk x.1, mv x.2, i + l.length)]
 | [], i, x => by simp [zk7]
 | y :: l, i, x => by rw [List.cons_append, zk7, zz9, List.length_cons, zk7, List.cons_append, show i + 1 + l.length = i + (l.length + 1) by omega]
theorem yagw (hk : zxp mk) {n : κ} {w : Int} {H : Heap} {b c : Nat} {l : List (κ × Int)} (hc : c = l.length) :
  muR H b (mk n) (mv w) (zk7 mk mv 0 l) c (zex (mk n) (zk7 mk mv 0 l) 0) = some (H.set b (.map (zk7 mk mv 0 (zog n w l)) (zog n w l).length)) := by
 subst hc
 rcases yaae hk (mv := mv) (n := n) (w := w) (l := l) (i := 0) (j := 0) with ⟨h1, h2, h3⟩ | ⟨p, v, h1, h2, h3⟩
 ·rw [h2, h3, zz9]; simp [muR]
 ·rw [h1, h3]
  simp only [muR, Nat.add_zero]
  rw [← h2, Nat.add_zero]
theorem ya2r {i : Nat} : zk7 mk mv i [] = [] := rfl
end
def strK (s : ByteArray) : AV := .str s
def i64V (n : Int) : AV := .int .i64 n
theorem zyf : zxp AV.str := fun a b => by
 simp only [zdw]
 by_cases h : a = b
 ·simp [h]
 ·have : ¬ a.data = b.data := fun e => h (ByteArray.ext e)
  simp [h, this]
theorem zt1 (k : IntKind) : zxp (AV.int k) := fun a b => by
 simp only [zdw]
 by_cases h : a = b <;> simp [h]
theorem zot {κ : Type} [DecidableEq κ] {mk : κ → AV} {mv : Int → AV} (h1 : ∀ a, (mk a).refs = []) (h2 : ∀ a, (mv a).refs = []) {c : Nat} : ∀ {l : List (κ × Int)} {i : Nat}, (Blk.map (zk7 mk mv i l) c).refs = []
 | [], _ => rfl
 | x :: l, i => by
  have := zot h1 h2 (c := c) (l := l) (i := i + 1)
  simp only [Blk.refs] at this ⊢
  rw [zk7, List.flatMap_cons, this, h1, h2]; rfl
theorem zyb {κ : Type} [DecidableEq κ] {mk : κ → AV} {mv : Int → AV} {ρ : Nat → Nat} (h1 : ∀ a, (mk a).ren ρ = mk a) (h2 : ∀ a, (mv a).ren ρ = mv a) {c : Nat} {l : List (κ × Int)} {i : Nat} : (Blk.map (zk7 mk mv i l) c).ren ρ = .map (zk7 mk mv i l) c := by
 have : ∀ {l : List (κ × Int)} {i : Nat}, (zk7 mk mv i l).map (fun e => (e.1.ren ρ, e.2.1.ren ρ, e.2.2)) = zk7 mk mv i l := by
  intro l
  induction l with
  | nil => intro i; rfl
  | cons x l ih => intro i; rw [zk7, List.map_cons, ih, h1, h2]
 simp only [Blk.ren, this]
end Go.Proofs.YtcfcphhamfhfcaaGreatDoor.v
namespace Go.Proofs.YtcfcphhamfhfcaaGreatDoor.v
open Go Go.Ab
set_option maxRecDepth 100000
set_option linter.unusedSimpArgs false
set_option linter.unusedVariables false
theorem zqi (t : MTerm) : zaq Tryz.prog (om Tryz.prog) 188 [zag t] ⟨0, []⟩ = some (.func 198 [] [.ptr 0 0], ⟨1, [some (.cells 120 t.cs)]⟩) := by
 obtain ⟨k, w, b, n, l, p, sub⟩ := t
 rw [yasf _ _ (by simp)]
 simp (maxSteps := 1000000) -implicitDefEqProofs only [↓reduceIte, ↓cond_true, ↓cond_false, sr1, sr2, kA, seval, d188, n188, zag, MTerm.cs, zpu]
noncomputable abbrev hz (t : MTerm) (c : Nat) : Heap := ⟨4, [some (.loop .ready none 186 ⟨10, [(3, .ptr 1 0), (5, .func 198 [] [.ptr 2 0])]⟩ [6] (lpa Tryz.f186 0) (lpb Tryz.f186 0) 3), some (.cells 3 [.int .i64 (c : Int)]), some (.cells 120 t.cs), some .dfr]⟩
theorem yant (t0 : MTerm) (p : Pl) (l : List MTerm) (hl : l.length < 2 ^ 62) (hS : ∀ x ∈ l, ∀ c, c + x.sz < 2 ^ 62 → zaq Tryz.prog (om Tryz.prog) 199 [zag x, .yieldf 0] (hz t0 c) = some (.bool true, hz t0 (c + x.sz))) :
  ∀ i, i ≤ l.length → ∀ c, c + szL (l.drop i) < 2 ^ 62 → lim (some []) 4 (blk 0 (om Tryz.prog ⟨199, none⟩ 4 (.loop (lpb Tryz.f199 0)) ⟨⟨23, [(1, .yieldf 0), (12, .rsl (slA p l) p.cap 6 (l.map zag)), (13, .int .i64 l.length), (14, .int .i64 i)]⟩, [], hz t0 c⟩)) = some (.normal, ⟨⟨23, []⟩, [], hz t0 (c + szL (l.drop i))⟩) := by
 refine zb8 (fun c h1 => ?_) (fun i h ih c h1 => ?_) <;> rw [zae]
 ·simp (maxSteps := 1000000) -implicitDefEqProofs only [↓reduceIte, ↓cond_true, ↓cond_false, sr1, sr2, kA, seval, zx7, zyl, zya, List.drop_length, yair, zah, hz]
 ·have e : szL (l.drop i) = l[i].sz + szL (l.drop (i + 1)) := by rw [List.drop_eq_getElem_cons h, zfc]
  rw [e] at h1 ⊢
  have hx := hS l[i] (List.getElem_mem h) c (by omega)
  have L := ih (c + l[i].sz) (by omega)
  rw [Nat.add_assoc] at L
  simp only [hz, zag, zah] at hx L
  simp (maxSteps := 1000000) -implicitDefEqProofs only [↓reduceIte, ↓cond_true, ↓cond_false, sr1, sr2, kA, seval, zx7, zyl, zya, dlt_t h, wi_nat (show i < 2 ^ 62 by omega), Go.Proofs.YtcfcphhamfhfcaaGreatDoor.v.ix_sl zab h, zag, zah, hz, hx, L]
theorem yad6 (t0 : MTerm) : ∀ t : MTerm, ∀ c, c + t.sz < 2 ^ 62 → zaq Tryz.prog (om Tryz.prog) 199 [zag t, .yieldf 0] (hz t0 c) = some (.bool true, hz t0 (c + t.sz)) := by
 intro t
 refine zda (Q := fun t => ∀ c, c + t.sz < 2 ^ 62 → zaq Tryz.prog (om Tryz.prog) 199 [zag t, .yieldf 0] (hz t0 c) = some (.bool true, hz t0 (c + t.sz))) (fun t ih c hc => ?_) t
 have hs := zfz t
 have L := yant t0 t.pl t.sub (by omega) ih 0 (Nat.zero_le _) (c + 1) (by rw [zus] at hc; rw [List.drop_zero]; omega)
 simp only [hz, zag, zah, List.drop_zero, Int.natCast_zero] at L
 have e : c + 1 + szL t.sub = c + t.sz := by rw [zus]; omega
 rw [e] at L
 rw [zxz _ _ (by simp)]
 simp (maxSteps := 1000000) -implicitDefEqProofs only [↓reduceIte, ↓cond_true, ↓cond_false, sr1, sr2, kA, seval, zx7, zyl, zya, d186, n186, e186, zag, zah, wi_nat (show c < 2 ^ 62 by omega), hz, L]
theorem yam0 (t : MTerm) (hc : t.sz < 2 ^ 62) : zaq Tryz.prog (om Tryz.prog) 186 [zag t] ⟨0, []⟩ = some (.int .i64 t.sz, ⟨0, []⟩) := by
 have hn := zqi t
 have hv := yad6 t t 0 (by omega)
 simp only [hz, zag, zah, Nat.zero_add, Int.natCast_zero] at hn hv
 rw [yasd _ _ (by simp)]
 simp (maxSteps := 1000000) -implicitDefEqProofs only [↓reduceIte, ↓cond_true, ↓cond_false, sr1, sr2, kA, seval, d186, n186, e186, zag, zah, hn]
 rw [zpl _ _ (by simp)]
 simp (maxSteps := 1000000) -implicitDefEqProofs only [↓reduceIte, ↓cond_true, ↓cond_false, sr1, sr2, kA, seval, d198, n198, d186, n186, e186, zag, zah, hz, hv]
end Go.Proofs.YtcfcphhamfhfcaaGreatDoor.v
