/- Acts, as an argument shows them; few. -/
import Derived.Test.YtienifnpacoahaaHI
namespace Go.Proofs.Ytienifnpacoahaa
open Go.Sh
attribute [local irreducible] rRun LDI LDB LDS LDP LDSl LDM LD Go.Sh.ST AL ALM LetW CallR CallV CallI NN IX SIX Br Req mInt mBool mStr mPtr mSlice mMap mAgg mTup mCons mNil mNth mPA LoopS

structure ActR where
  (op f t p : Int) (ta : Option Addr) (tn tc : Nat) (tos : List Int) (ba : Option Addr) (bn bc : Nat) (bs : List UInt8)
def ActR.cells (x : ActR) : List Value := [.int .i64 x.op, .int .i64 x.f, .int .i64 x.t, .int .i64 x.p, .slice x.ta x.tn x.tc, .slice x.ba x.bn x.bc]
def ActR.ok (w : World) (x : ActR) : Prop := Reads w 1 (.slice x.ta x.tn x.tc) (ints x.tos) ∧ Reads w 1 (.slice x.ba x.bn x.bc) (bvals x.bs)
def ActsAt (w : World) (v : Value) (l : List ActR) : Prop :=
  (∃ a len cap, v = .slice a len cap ∧ len = l.length ∧ (len = 0 ∨ ∃ ad, a = some ad ∧ ∀ i x, l[i]? = some x → ∀ j c, x.cells[j]? = some c → w.cell? ((ad.add (i * 6)).add j) = some c)) ∧ ∀ x ∈ l, x.ok w
theorem Fr.cell0 {w w' : World} (h : Fr [] w w') {a : Addr} {v : Value} (hc : w.cell? a = some v) : w'.cell? a = some v := by
  rw [← hc]
  exact h.cell (World.block_lt_of_cell? w a hc) (by simp)
theorem Reads.stays {w w' : World} {v : Value} {cs : List Value} (h : Reads w 1 v cs) (hf : Fr [] w w') : Reads w' 1 v cs :=
  h.of fun b hb => hf.block b (h.lt (by decide) b hb) (by simp)
theorem ActsAt.stays {w w' : World} {v : Value} {l : List ActR} (h : ActsAt w v l) (hf : Fr [] w w') : ActsAt w' v l := by
  obtain ⟨⟨a, len, cap, hv, hl, h3⟩, hx⟩ := h
  refine ⟨⟨a, len, cap, hv, hl, ?_⟩, fun x hm => ⟨Reads.stays (hx x hm).1 hf, Reads.stays (hx x hm).2 hf⟩⟩
  rcases h3 with h3 | ⟨ad, ha, h4⟩
  · exact .inl h3
  · exact .inr ⟨ad, ha, fun i x hi j c hj => Fr.cell0 hf (h4 i x hi j c hj)⟩
theorem wIXa {w : World} {x : Option Addr} {n m i : Nat} {v : Int} {l : List ActR} {act : ActR} {K : Addr → Prop} (h : ActsAt w (.slice x n m) l) (hi : l[i]? = some act) (hv : v = (i : Int))
    (hK : ∀ ad : Addr, (∀ j c, act.cells[j]? = some c → w.cell? (ad.add j) = some c) → K ad) : IX x n v 6 K := by
  obtain ⟨⟨_, _, _, he, hl, h3⟩, _⟩ := h
  cases he
  have hlt := (List.getElem?_eq_some_iff.1 hi).1
  rcases h3 with h3 | ⟨ad, rfl, h4⟩
  · omega
  · have h5 := hK (ad.add (i * 6)) (fun j c hj => h4 i act hi j c hj)
    have e : v.toNat * 6 = i * 6 := by omega
    unfold IX
    exact ⟨ad, rfl, by omega, by omega, by rw [e]; exact h5⟩

section
variable {w : World}
theorem few_spec {b : Option Addr} {n c : Nat} {l : List ActR} (hb : ActsAt w (.slice b n c) l) (hlen : l.length ≤ 9223372036854775807) :
    CallS Try.prog fn_glacierlaw3_few #[.slice b n c] w [] fun r _ A => A = [] ∧ ∃ q : Bool, r = .bool q ∧ (q = true → l.length ≤ 500 ∧ ∀ x ∈ l, x.tos.length ≤ 100 ∧ x.bs.length ≤ 1000) := by
  have hn : n = l.length := by
    obtain ⟨⟨_, _, _, he, h1, _⟩, _⟩ := hb
    cases he
    exact h1
  subst hn
  refine CallS_intro (.nil w) fun H => glacierlaw3_few_sound _ _ _ _ _ ?_
  refine wLoop (fun k s w' => ∃ (i : Nat) (m : Int), k + i = l.length ∧ s = (b, l.length, c, m, (i : Int)) ∧ (∀ j x, j < i → l[j]? = some x → x.tos.length ≤ 100 ∧ x.bs.length ≤ 1000) ∧ St w (fps []) w' []) ?_ ?_
  · exact ⟨l.length, 0, 0, by omega, rfl, fun j x hj _ => by omega, H⟩
  rintro k s w1 ⟨i, m, hk, rfl, hall, H⟩
  refine br (fun h => ?_) (fun h => ?_)
  · have hi : i < l.length := by simp at h; omega
    obtain ⟨x, hx⟩ : ∃ x, l[i]? = some x := ⟨_, List.getElem?_eq_getElem hi⟩
    repeat (first | refine nn ?_ | refine wI H (hK := ?_) | refine wP H (hK := ?_) | refine wM H (hK := ?_) | refine wSl H (hK := ?_) | refine wB H (hK := ?_) | refine wS H (hK := ?_) | refine wEq ?_ | refine wC H (hK := ?_) | (refine wLW H ?_; intro w1 H) | (refine wST H (hK := ?_); intro w1 H _) | refine mSlice_mk ?_ | refine mInt_mk ?_ | refine mBool_mk ?_ | refine mTup_mk ?_ | refine mCons_mk ?_ | refine mNil_mk ?_ | refine mAgg_mk ?_ | refine mPtr_mk ?_ | refine mStr_mk ?_)
    have hb1 := hb.stays H.fr
    have htl : x.tn = x.tos.length ∧ x.bn = x.bs.length := by
      obtain ⟨⟨_, _, _, e1, l1, _⟩, ⟨_, _, _, e2, l2, _⟩⟩ := hb1.2 x (List.mem_of_getElem? hx)
      cases e1; cases e2
      exact ⟨by simpa [ints] using l1, by simpa using l2⟩
    refine wIXa hb1 hx rfl fun a1 ha1 => ?_
    refine ldSl (ha1 5 _ rfl) (wEq ?_)
    refine wIXa hb1 hx rfl fun a1 ha1 => ?_
    refine ldSl (ha1 4 _ rfl) (wEq ?_)
    refine wIXa hb1 hx rfl fun a1 ha1 => ?_
    refine ldSl (ha1 5 _ rfl) ?_
    refine br (fun _ => ⟨_, ⟨rfl, false, rfl, fun h => by cases h⟩, H⟩) (fun h5 => ?_)
    refine wIXa hb1 hx rfl fun a1 ha1 => ?_
    refine ldSl (ha1 4 _ rfl) ?_
    refine br (fun _ => ⟨_, ⟨rfl, false, rfl, fun h => by cases h⟩, H⟩) (fun h4 => ?_)
    simp at h4 h5
    have hw : IntKind.wrap .i64 ((i : Int) + 1) = ((i + 1 : Nat) : Int) := by rw [wrap_id (by omega) (by omega)]; rfl
    show ∃ k', k' < k ∧ _
    refine ⟨k - 1, by omega, i + 1, _, by omega, by rw [hw], fun j y hj hy => ?_, H⟩
    by_cases hji : j = i
    · subst hji
      rw [hx] at hy
      cases hy
      omega
    · exact hall j y (by omega) hy
  · have hi : l.length ≤ i := by simp at h; omega
    have hall' : ∀ x ∈ l, x.tos.length ≤ 100 ∧ x.bs.length ≤ 1000 := fun x hx => by
      obtain ⟨j, hj⟩ := List.getElem?_of_mem hx
      exact hall j x (by have := (List.getElem?_eq_some_iff.1 hj).1; omega) hj
    refine br (fun h5 => ?_) (fun _ => ⟨_, ⟨rfl, false, rfl, fun h => by cases h⟩, H⟩)
    exact ⟨_, ⟨rfl, _, rfl, fun _ => ⟨by simp at h5; omega, hall'⟩⟩, H⟩
end
end Go.Proofs.Ytienifnpacoahaa
