/- Name. -/
import Derived.Test.YtimgbkabfkdabaaHA
namespace Go.Proofs.Ytimgbkabfkdabaa
open Go.Sh

theorem bytes_get {s : ByteArray} {i : Nat} {c : UInt8} (h : s.data.toList[i]? = some c) : s[i]? = some c := by
  obtain ⟨hi, he⟩ := List.getElem?_eq_some_iff.1 h
  have hs : i < s.size := by rw [Array.length_toList] at hi; exact hi
  rw [getElem?_pos s i hs]
  congr 1
theorem wSIX {s : ByteArray} {i : Nat} {v : Int} {c : UInt8} {K : UInt8 → Prop} (hc : s.data.toList[i]? = some c) (hv : v = (i : Int)) (hK : K c) : SIX s v K := by
  subst hv
  exact ⟨c, by omega, bytes_get (by simpa using hc), hK⟩
attribute [local irreducible] rRun LDI LDB LDS LDP LDSl LDM LD Go.Sh.ST AL ALM LetW CallR CallV CallI NN IX SIX Br Req mInt mBool mStr mPtr mSlice mMap mAgg mTup mCons mNil mNth mPA LoopS
def okc (c : UInt8) : Bool := (decide (97 ≤ c.toNat) && decide (c.toNat ≤ 122)) || (decide (48 ≤ c.toNat) && decide (c.toNat ≤ 57)) || c.toNat == 45 || c.toNat == 46
def nameOk (s : ByteArray) : Bool := decide (1 ≤ s.size) && decide (s.size ≤ 64) && s.data.toList.all okc
theorem Name_spec (s : ByteArray) (w : World) : CallS Try.prog fn_disk_Name #[.string s] w [] fun r _ A => r = .bool (nameOk s) ∧ A = [] := by
  refine CallS_intro (.nil w) fun H => disk_Name_sound _ _ _ ?_
  refine br (fun h => ⟨_, ⟨?_, rfl⟩, H⟩) (fun h1 => br (fun h => ⟨_, ⟨?_, rfl⟩, H⟩) (fun h2 => ?_))
  · have h1 : s.size < 1 := by simp at h; omega
    simp [nameOk, show ¬ 1 ≤ s.size by omega]
  · have h1 : ¬ s.size ≤ 64 := by simp at h; omega
    simp [nameOk, h1]
  have hl1 : 1 ≤ s.size := by simp at h1; omega
  have hl2 : s.size ≤ 64 := by simp at h2; omega
  refine wLoop (fun k x w' => ∃ i : Nat, k + i = s.size ∧ x = (s, (s.size : Int), (i : Int)) ∧ (∀ j c, j < i → s.data.toList[j]? = some c → okc c = true) ∧ St w (fps []) w' []) ?_ ?_
  · exact ⟨s.size, 0, by omega, rfl, fun j c hj _ => by omega, H⟩
  rintro k x w1 ⟨i, hk, rfl, hall, H⟩
  have hlen : s.data.toList.length = s.size := Array.length_toList
  refine br (fun h => ?_) (fun h => ?_)
  · have hi : i < s.size := by simp at h; omega
    obtain ⟨c, hc⟩ : ∃ c, s.data.toList[i]? = some c := ⟨_, List.getElem?_eq_getElem (by omega)⟩
    refine wSIX hc rfl ?_
    have hw : IntKind.wrap .i64 ((i : Int) + 1) = ((i + 1 : Nat) : Int) := by rw [wrap_id (by omega) (by omega)]; rfl
    have good : okc c = true → ∃ k', k' < k ∧ ∃ i' : Nat, k' + i' = s.size ∧ (s, (s.size : Int), IntKind.wrap .i64 ((i : Int) + 1)) = (s, (s.size : Int), (i' : Int)) ∧ (∀ j c, j < i' → s.data.toList[j]? = some c → okc c = true) ∧ St w (fps []) w1 [] := by
      intro hok
      refine ⟨k - 1, by omega, i + 1, by omega, by rw [hw], fun j d hj hd => ?_, H⟩
      by_cases hji : j = i
      · subst hji; rw [hc] at hd; cases hd; exact hok
      · exact hall j d (by omega) hd
    have bad : okc c = false → ∃ A', ((.bool false : Value) = .bool (nameOk s) ∧ A' = []) ∧ St w (fps []) w1 A' := by
      intro hno
      refine ⟨[], ⟨?_, rfl⟩, H⟩
      have : s.data.toList.all okc = false := List.all_eq_false.2 ⟨c, List.mem_of_getElem? hc, by rw [hno]; decide⟩
      simp [nameOk, this]
    have e : okc c = (decide ((c.toNat : Int) ≥ 97) && decide ((c.toNat : Int) ≤ 122) || decide ((c.toNat : Int) ≥ 48) && decide ((c.toNat : Int) ≤ 57) || (c.toNat : Int) == 45 || (c.toNat : Int) == 46) := by
      unfold okc
      have a1 : decide (97 ≤ c.toNat) = decide ((c.toNat : Int) ≥ 97) := by simp; omega
      have a2 : decide (c.toNat ≤ 122) = decide ((c.toNat : Int) ≤ 122) := by simp; omega
      have a3 : decide (48 ≤ c.toNat) = decide ((c.toNat : Int) ≥ 48) := by simp; omega
      have a4 : decide (c.toNat ≤ 57) = decide ((c.toNat : Int) ≤ 57) := by simp; omega
      have a5 : (c.toNat == 45) = ((c.toNat : Int) == 45) := by rw [Bool.eq_iff_iff]; simp; omega
      have a6 : (c.toNat == 46) = ((c.toNat : Int) == 46) := by rw [Bool.eq_iff_iff]; simp; omega
      rw [a1, a2, a3, a4, a5, a6]
    rw [e] at good bad
    clear e hall hc H
    cases x1 : decide ((c.toNat : Int) ≥ 97) <;> cases x2 : decide ((c.toNat : Int) ≤ 122) <;> cases x3 : decide ((c.toNat : Int) ≥ 48) <;> cases x4 : decide ((c.toNat : Int) ≤ 57) <;> cases x5 : ((c.toNat : Int) == 45) <;> cases x6 : ((c.toNat : Int) == 46) <;>
      simp only [x1, x2, x3, x4, x5, x6] at good bad ⊢ <;>
      (repeat (first | exact good rfl | exact bad rfl | refine br (fun hx => ?_) (fun hx => ?_) | (cases hx)))
  · have hi : s.size ≤ i := by simp at h; omega
    refine ⟨_, ⟨?_, rfl⟩, H⟩
    have : s.data.toList.all okc = true := List.all_eq_true.2 fun c hc => by
      obtain ⟨j, hj⟩ := List.getElem?_of_mem hc
      exact hall j c (by have := (List.getElem?_eq_some_iff.1 hj).1; omega) hj
    simp [nameOk, this, hl1, hl2]
end Go.Proofs.Ytimgbkabfkdabaa
