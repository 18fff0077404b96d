/- What the law's proof leans on, part 13. Conditions: in each statement. -/
import Derived.Test.YtibehelnfbcnjaaGreatDoorQL1
import Derived.Test.YtibehelnfbcnjaaGreatDoorQVS
import Derived.Test.YtibehelnfbcnjaaGreatDoorChecked
set_option linter.all false
namespace Go.Proofs.YtibehelnfbcnjaaGreatDoor.v
open Go Go.Ab
def inlT : List Nat := [70, 83, 37, 94, 120, 26]
def yadz (f k : Nat) : Option (List Nat) := if k % 3 = 0 then (lkN f yay6).bind (lkN (k / 3)) else (lkN f yah4).bind (lkN k)
def yati (f r : Nat) : List (Nat × Nat) := ((lkN f yayy).bind (lkN r)).getD []
def shapesC : List AV := [(.str ByteArray.empty), (.int .i64 0), (.int .i64 0), (.str ByteArray.empty), (.int .i64 0), (.int .i64 0), (.str ByteArray.empty), (.int .i64 0), (.int .i64 0), (.str (ByteArray.mk #[110, 111, 116])), (.int .i64 1), (.int .i64 1), (.str (ByteArray.mk #[110, 101, 103])), (.int .i64 1), (.int .i64 1), (.str (ByteArray.mk #[97, 100, 100])), (.int .i64 2), (.int .i64 1), (.str (ByteArray.mk #[115, 117, 98])), (.int .i64 2), (.int .i64 1), (.str (ByteArray.mk #[109, 117, 108])), (.int .i64 2), (.int .i64 1), (.str (ByteArray.mk #[97, 110, 100])), (.int .i64 2), (.int .i64 1), (.str (ByteArray.mk #[111, 114])), (.int .i64 2), (.int .i64 1), (.str (ByteArray.mk #[120, 111, 114])), (.int .i64 2), (.int .i64 1), (.str (ByteArray.mk #[115, 104, 108])), (.int .i64 2), (.int .i64 1), (.str (ByteArray.mk #[115, 104, 114])), (.int .i64 2), (.int .i64 1), (.str (ByteArray.mk #[115, 97, 114])), (.int .i64 2), (.int .i64 1), (.str (ByteArray.mk #[117, 100, 105, 118])), (.int .i64 2), (.int .i64 1), (.str (ByteArray.mk #[117, 114, 101, 109])), (.int .i64 2), (.int .i64 1), (.str (ByteArray.mk #[101, 113])), (.int .i64 2), (.int .i64 2), (.str (ByteArray.mk #[117, 108, 116])), (.int .i64 2), (.int .i64 2), (.str (ByteArray.mk #[115, 108, 116])), (.int .i64 2), (.int .i64 2), (.str (ByteArray.mk #[105, 116, 101])), (.int .i64 3), (.int .i64 3), (.str (ByteArray.mk #[99, 111, 110, 99, 97, 116])), (.int .i64 2), (.int .i64 4), (.str (ByteArray.mk #[101, 120, 116, 114, 97, 99, 116])), (.int .i64 1), (.int .i64 5), (.str (ByteArray.mk #[122, 101, 120, 116])), (.int .i64 1), (.int .i64 6), (.str (ByteArray.mk #[115, 101, 120, 116])), (.int .i64 1), (.int .i64 6), (.str (ByteArray.mk #[108, 111, 97, 100])), (.int .i64 1), (.int .i64 7)]
def glob (g : Nat) : Option AV := if g = 0 then some (.rptr ⟨0, 0, none⟩ shapesC) else none
instance : Env := ⟨glob, yadz, yati, fun f => inlT.contains f⟩
theorem yako {f : Nat} : Env.inl f = inlT.contains f := rfl
theorem lv {f : Nat} {row : List (Nat × List Nat)} (h : lkN f yah4 = some row) : LV f row := fun k hk => by
 show yadz f k = _
 unfold yadz
 rw [if_neg (fun q => by rw [hk] at q; exact q), h]; rfl
theorem yac1 {g : Nat} : Env.glob g = glob g := rfl
end Go.Proofs.YtibehelnfbcnjaaGreatDoor.v
