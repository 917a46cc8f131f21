/- all, by ContainsFunc and IndexFunc. -/
import Derived.Test.YtimgbkabfkdabaaHD
import Derived.Test.YtimgbkabfkdabaaShSort
namespace Go.Proofs.Ytimgbkabfkdabaa
open Go.Sh
attribute [local irreducible] rRun LDI LDB LDS LDP LDSl LDM LD Go.Sh.ST AL ALM LetW CallR CallV CallI NN IX SIX Br Req mInt mBool mStr mPtr mSlice mMap mAgg mTup mCons mNil mNth mPA LoopS

section
variable {w0 w : World} {F : List Nat} {L R : List Own}
def strs (l : List ByteArray) : List Value := l.map Value.string
def allIn (l : Files) (ns : List ByteArray) : Bool := ns.all fun s => (aget l s).isSome
/-- The closure of 'all': whether a name is missing. -/
theorem all1_walk {d1 db bm : Nat} {size used born : Int} {l : Files} {s : ByteArray} {K : Value → World → Prop}
    (H : St w0 F w [pt d1 (.cells #[.pointer (some ⟨db, 0, none⟩)] 24), pt db (.cells #[.int .i64 size, .int .i64 used, .int .i64 born, .map (some bm)] 67), filesM bm l, filesO l])
    (hK : K (.bool (aget l s).isNone) w) :
    CallV Try.prog (.func (.func fn_disk_Disk_all_1) #[] #[.pointer (some ⟨d1, 0, none⟩)]) [.string s] w K := by
  refine wCallV (by kernel_rfl) (disk_Disk_all_1_sound s ⟨d1, 0, none⟩ K w ?_)
  repeat (first | refine nn ?_ | refine wI H (hK := ?_) | refine wP H (hK := ?_) | refine wM H (hK := ?_) | refine wSl H (hK := ?_) | refine wB H (hK := ?_) | refine wS H (hK := ?_) | refine wEq ?_ | refine wC H (hK := ?_) | (refine wLW H ?_; intro w1 H) | (refine wST H (hK := ?_); intro w1 H _) | refine mSlice_mk ?_ | refine mInt_mk ?_ | refine mBool_mk ?_ | refine mTup_mk ?_ | refine mCons_mk ?_ | refine mNil_mk ?_ | refine mAgg_mk ?_ | refine mPtr_mk ?_ | refine mStr_mk ?_)
  refine wLookupF H (hK := ?_)
  refine mPtr_mk ?_
  cases hg : aget l s <;> (rw [hg] at hK; exact hK)
theorem all_spec {db bm : Nat} {size used born : Int} {l : Files} {na : Option Addr} {nn' nc : Nat} {ns : List ByteArray} (hA : Has w [diskO db bm size used born l])
    (hb : Ext w [diskO db bm size used born l] 1 (.slice na nn' nc) (strs ns)) (hl : ns.length ≤ 1000000000000) :
    CallS Try.prog fn_disk_Disk_all #[.pointer (some ⟨db, 0, none⟩), .slice na nn' nc] w [diskO db bm size used born l] fun r _ A => r = .bool (allIn l ns) ∧ A = [diskO db bm size used born l] := by
  have hn : nn' = ns.length := by
    obtain ⟨⟨_, _, _, he, h1, _⟩, _⟩ := hb
    cases he
    simpa [strs] using h1
  subst hn
  refine CallS_intro hA fun H => disk_Disk_all_sound _ _ _ _ _ _ ?_
  refine wAL H fun d1 w1 H => ?_
  have H := (H.front (diskO db bm size used born l)).diskOpen
  have H := H.front (pt d1 (.cells #[.pointer (some ⟨db, 0, none⟩)] 24))
  refine slices_ContainsFunc_s_string_string_sound _ _ _ _ _ _ ?_
  refine slices_IndexFunc_s_string_string_sound _ _ _ _ _ _ ?_
  refine wLoop (fun k x w' => ∃ i : Nat, k + i = ns.length ∧ x = (na, ns.length, nc, .func (.func fn_disk_Disk_all_1) #[] #[.pointer (some ⟨d1, 0, none⟩)], (ns.length : Int), (i : Int)) ∧ (∀ j s, j < i → ns[j]? = some s → (aget l s).isSome = true) ∧
    St w (fps [diskO db bm size used born l]) w' [pt d1 (.cells #[.pointer (some ⟨db, 0, none⟩)] 24), pt db (.cells #[.int .i64 size, .int .i64 used, .int .i64 born, .map (some bm)] 67), filesM bm l, filesO l]) ?_ ?_
  · exact ⟨ns.length, 0, by omega, rfl, fun j s hj _ => by omega, H⟩
  rintro k x w1 ⟨i, hk, rfl, hall, H⟩
  refine br (fun h => ?_) (fun h => ?_)
  · have hi : i < ns.length := by simp at h; omega
    obtain ⟨s, hs⟩ : ∃ s, ns[i]? = some s := ⟨_, List.getElem?_eq_getElem hi⟩
    refine wIXr (hb.reads (by decide) H.fr) (i := i) (by simpa [strs] using hi) rfl fun ad had => ?_
    have hcell : (strs ns)[i]? = some (.string s) := by simp [strs, hs]
    rw [hcell] at had
    refine ldS had ?_
    refine all1_walk H ?_
    refine mBool_mk (br (fun hno => ?_) (fun hno => ?_))
    · refine mInt_mk (mBool_mk ?_)
      have hd : decide ((i : Int) ≥ 0) = true := by simp
      have hf : allIn l ns = false := List.all_eq_false.2 ⟨s, List.mem_of_getElem? hs, by
        cases hg : aget l s with
        | none => simp
        | some f => rw [hg] at hno; cases hno⟩
      exact ⟨_, ⟨by rw [hd, hf]; rfl, rfl⟩, H.tail.diskClose⟩
    · have hw : IntKind.wrap .i64 ((i : Int) + 1) = ((i + 1 : Nat) : Int) := by rw [wrap_id (by omega) (by omega)]; rfl
      show ∃ k', k' < k ∧ _
      refine ⟨k - 1, by omega, i + 1, by omega, by rw [hw], fun j t hj ht => ?_, H⟩
      by_cases hji : j = i
      · subst hji
        rw [hs] at ht
        cases ht
        cases hg : aget l s with
        | none => rw [hg] at hno; cases hno
        | some f => rfl
      · exact hall j t (by omega) ht
  · have hi : ns.length ≤ i := by simp at h; omega
    have ht : allIn l ns = true := List.all_eq_true.2 fun s hs => by
      obtain ⟨j, hj⟩ := List.getElem?_of_mem hs
      exact hall j s (by have := (List.getElem?_eq_some_iff.1 hj).1; omega) hj
    refine mInt_mk (mBool_mk ?_)
    have hd : decide ((-1 : Int) ≥ 0) = false := by decide
    exact ⟨_, ⟨by rw [hd, ht]; rfl, rfl⟩, H.tail.diskClose⟩
end
end Go.Proofs.Ytimgbkabfkdabaa
