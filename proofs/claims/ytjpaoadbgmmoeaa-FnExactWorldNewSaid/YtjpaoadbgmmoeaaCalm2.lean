/- Slices that read as lists, in a world that has grown. No condition. -/
import Derived.Test.YtjpaoadbgmmoeaaWA2
import Derived.Test.YtjpaoadbgmmoeaaCalm
namespace Go.Proofs.Ytjpaoadbgmmoeaa
open Go.RowKit

theorem SliceR.grew {α : Type} {R : World → (Nat → Prop) → List Value → α → Prop} {size : Nat} {W : World} {ok : Nat → Prop} {A : Option Addr} {n c : Nat} {l : List α} (hR : RCar R) (h : SliceR R size W ok A n c l) (hok : Sub ok (Old W)) {x : World} : SliceR R size (grew W x) ok A n c l := h.below hR hok (grew_below W x) (Nat.le_refl _)
theorem Sub.grew {W : World} {ok : Nat → Prop} (hok : Sub ok (Old W)) {x : World} : Sub ok (Old (grew W x)) := hok.old (grew_below W x).size
theorem rangesValid_dec {A : Option Addr} {n c : Nat} {l : List Rg} {b : Bool} (hv : rgValid l = b) {W x : World} {ok : Nat → Prop} (h : RgS W ok A n c l) (hok : Sub ok (Old W)) :
    Calls Try.prog 72 #[.slice A n c] (grew W x) fun e w' => e = .returned (.bool b) ∧ Below (grew W x).heap.size (grew W x) w' := by rw [← hv]; exact rangesValid_any A n c l (grew W x) ok (h.grew rgCar hok) hok.grew
theorem has_dec {A : Option Addr} {n c : Nat} {l : List Rg} {y : Int} {b : Bool} (hv : hasR l y = b) {W x : World} {ok : Nat → Prop} (h : RgS W ok A n c l) (hok : Sub ok (Old W)) :
    Calls Try.prog 68 #[.slice A n c, .int .i64 y] (grew W x) fun e w' => e = .returned (.bool b) ∧ Below (grew W x).heap.size (grew W x) w' := by rw [← hv]; exact has_any A n c l y (grew W x) ok (h.grew rgCar hok) hok.grew
end Go.Proofs.Ytjpaoadbgmmoeaa
