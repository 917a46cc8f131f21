/- The steps of Walk with all that they ask written out: for 'apply', that fails at once where a goal has another head. -/
import Derived.Test.YtnhjcjnjpciifaaDoorShWalk
namespace Go.Sh
variable {P : Program}
section
variable {w0 w : World} {F : List Nat} {L : List Own} {a : Addr} {c : Array Value} {e : TypeId} {fz : Nat × Nat}
theorem xI {b j : Nat} {k : IntKind} {x : Int} {K : Int → Prop} (H : St w0 F w L) (ha : a = ⟨b, j, none⟩) (hu : List.Mem (pt b (.cells c e fz)) L) (hc : c[j]? = some (.int k x)) (hK : K x) : LDI k w a K := ⟨x, H.at ha hu hc, hK⟩
theorem xB {b j : Nat} {x : Bool} {K : Bool → Prop} (H : St w0 F w L) (ha : a = ⟨b, j, none⟩) (hu : List.Mem (pt b (.cells c e fz)) L) (hc : c[j]? = some (.bool x)) (hK : K x) : LDB w a K := ⟨x, H.at ha hu hc, hK⟩
theorem xS {b j : Nat} {x : ByteArray} {K : ByteArray → Prop} (H : St w0 F w L) (ha : a = ⟨b, j, none⟩) (hu : List.Mem (pt b (.cells c e fz)) L) (hc : c[j]? = some (.string x)) (hK : K x) : LDS w a K := ⟨x, H.at ha hu hc, hK⟩
theorem xP {b j : Nat} {x : Option Addr} {K : Option Addr → Prop} (H : St w0 F w L) (ha : a = ⟨b, j, none⟩) (hu : List.Mem (pt b (.cells c e fz)) L) (hc : c[j]? = some (.pointer x)) (hK : K x) : LDP w a K := ⟨x, H.at ha hu hc, hK⟩
theorem xM {b j : Nat} {x : Option Nat} {K : Option Nat → Prop} (H : St w0 F w L) (ha : a = ⟨b, j, none⟩) (hu : List.Mem (pt b (.cells c e fz)) L) (hc : c[j]? = some (.map x)) (hK : K x) : LDM w a K := ⟨x, H.at ha hu hc, hK⟩
theorem xSl {b j : Nat} {x : Option Addr} {n m : Nat} {K : Option Addr → Nat → Nat → Prop} (H : St w0 F w L) (ha : a = ⟨b, j, none⟩) (hu : List.Mem (pt b (.cells c e fz)) L) (hc : c[j]? = some (.slice x n m)) (hK : K x n m) : LDSl w a K := ⟨x, n, m, H.at ha hu hc, hK⟩
theorem xV {b j : Nat} {v : Value} {K : Value → Prop} (H : St w0 F w L) (ha : a = ⟨b, j, none⟩) (hu : List.Mem (pt b (.cells c e fz)) L) (hc : c[j]? = some v) (hK : K v) : LD w a K := ⟨v, H.at ha hu hc, hK⟩
theorem xC {b j : Nat} {v : Value} {K : Prop} (H : St w0 F w L) (ha : a = ⟨b, j, none⟩) (hu : List.Mem (pt b (.cells c e fz)) L) (hc : c[j]? = some v) (hK : K) : w.cell? a = some v ∧ K := ⟨H.at ha hu hc, hK⟩
theorem xST {b j : Nat} {v : Value} {l l' : List Value} {K : World → Prop} {M : List Own} (H : St w0 F w L) (ha : a = ⟨b, j, none⟩)
    (hu : Upd (pt b (.cells l.toArray e fz)) (pt b (.cells l'.toArray e fz)) L M) (hs : SetAt v l j l') (hf : (decide (fz.1 ≤ j) && decide (j < fz.2)) = false)
    (hK : ∀ w', St w0 F w' M → K w') : ST w a v K := wST H ha hu hs hf fun w' H _ => hK w' H
end
theorem brT {c : Bool} {A B : Prop} (hc : c = true) (h : A) : Br c A B := ⟨fun _ => h, fun h => by rw [hc] at h; cases h⟩
theorem brF {c : Bool} {A B : Prop} (hc : c = false) (h : B) : Br c A B := ⟨fun h => by (rw [hc] at h; cases h), fun _ => h⟩
end Go.Sh
