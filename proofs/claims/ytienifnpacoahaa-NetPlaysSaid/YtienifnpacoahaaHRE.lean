/- NetPlays: what it walks. -/
import Derived.Test.YtienifnpacoahaaHRD
namespace Go.Proofs.Ytienifnpacoahaa
open Go.Sh
attribute [local irreducible] rRun LDI LDB LDS LDP LDSl LDM LD Go.Sh.ST AL ALM LetW CallR CallV CallI NN IX SIX Br Req mInt mBool mStr mPtr mSlice mMap mAgg mTup mCons mNil mNth mPA LoopS

section
variable {w : World}
theorem same_start (nd bd : Int) (hbd : 1 ≤ bd) : Same nd bd [] [] := by
  refine ⟨?_, (fun e he => by cases he), ⟨(fun m hm => by cases hm), fun f t => ?_, (fun m hm => by cases hm)⟩⟩
  · funext k; rfl
  · show ((0 : Nat) : Int) ≤ bd
    omega
theorem NetPlays_spec {nd bd : Int} {b : Option Addr} {n c : Nat} {l : List ActR} (hb : ActsAt w (.slice b n c) l) (hlen : l.length ≤ 9223372036854775807) :
    CallS Try.prog fn_glacierlaw3_NetPlays #[.int .i64 nd, .int .i64 bd, .slice b n c] w [] fun r _ A => r = .bool true ∧ A = [] := by
  have hn : n = l.length := by
    obtain ⟨⟨_, _, _, he, h1, _⟩, _⟩ := hb
    cases he
    exact h1
  subst hn
  refine CallS_intro (.nil w) fun H => glacierlaw3_NetPlays_sound _ _ _ _ _ _ _ ?_
  refine wCall H (fun _ => known_spec w) (hK := ?_)
  rintro r w1 A' ⟨rfl, rfl⟩ _ H
  repeat (first | refine nn ?_ | refine wI H (hK := ?_) | refine wP H (hK := ?_) | refine wM H (hK := ?_) | refine wSl H (hK := ?_) | refine wB H (hK := ?_) | refine wS H (hK := ?_) | refine wEq ?_ | refine wC H (hK := ?_) | (refine wLW H ?_; intro w1 H) | (refine wST H (hK := ?_); intro w1 H _) | refine mSlice_mk ?_ | refine mInt_mk ?_ | refine mBool_mk ?_ | refine mTup_mk ?_ | refine mCons_mk ?_ | refine mNil_mk ?_ | refine mAgg_mk ?_ | refine mPtr_mk ?_ | refine mStr_mk ?_)
  refine br (fun h => by simp at h) (fun _ => ?_)
  refine wCall H (fun _ => few_spec (hb.stays H.fr) hlen) (hK := ?_)
  rintro r w1 A' ⟨rfl, q, rfl, hq⟩ _ H
  repeat (first | refine nn ?_ | refine wI H (hK := ?_) | refine wP H (hK := ?_) | refine wM H (hK := ?_) | refine wSl H (hK := ?_) | refine wB H (hK := ?_) | refine wS H (hK := ?_) | refine wEq ?_ | refine wC H (hK := ?_) | (refine wLW H ?_; intro w1 H) | (refine wST H (hK := ?_); intro w1 H _) | refine mSlice_mk ?_ | refine mInt_mk ?_ | refine mBool_mk ?_ | refine mTup_mk ?_ | refine mCons_mk ?_ | refine mNil_mk ?_ | refine mAgg_mk ?_ | refine mPtr_mk ?_ | refine mStr_mk ?_)
  refine br (fun _ => ⟨_, ⟨rfl, rfl⟩, Sh.St.left (L := []) H⟩) (fun hqt => ?_)
  obtain ⟨h500, hsm⟩ := hq (by simpa using hqt)
  refine wCall H (fun _ => New_spec nd bd w1) (hK := ?_)
  rintro r w1 A' ⟨hr1, hr2⟩ _ H
  by_cases hok : 1 ≤ nd ∧ nd ≤ 16 ∧ 1 ≤ bd ∧ bd ≤ 65536
  · obtain ⟨nb, bm, rfl, rfl⟩ := hr1 hok
    repeat (first | refine nn ?_ | refine wI H (hK := ?_) | refine wP H (hK := ?_) | refine wM H (hK := ?_) | refine wSl H (hK := ?_) | refine wB H (hK := ?_) | refine wS H (hK := ?_) | refine wEq ?_ | refine wC H (hK := ?_) | (refine wLW H ?_; intro w1 H) | (refine wST H (hK := ?_); intro w1 H _) | refine mSlice_mk ?_ | refine mInt_mk ?_ | refine mBool_mk ?_ | refine mTup_mk ?_ | refine mCons_mk ?_ | refine mNil_mk ?_ | refine mAgg_mk ?_ | refine mPtr_mk ?_ | refine mStr_mk ?_)
    refine wCall H (fun _ => rNew_spec nd bd w1) (hK := ?_)
    rintro r w1 A' ⟨hr1, _⟩ _ H
    obtain ⟨rb, rfl, rfl⟩ := hr1 hok
    repeat (first | refine nn ?_ | refine wI H (hK := ?_) | refine wP H (hK := ?_) | refine wM H (hK := ?_) | refine wSl H (hK := ?_) | refine wB H (hK := ?_) | refine wS H (hK := ?_) | refine wEq ?_ | refine wC H (hK := ?_) | (refine wLW H ?_; intro w1 H) | (refine wST H (hK := ?_); intro w1 H _) | refine mSlice_mk ?_ | refine mInt_mk ?_ | refine mBool_mk ?_ | refine mTup_mk ?_ | refine mCons_mk ?_ | refine mNil_mk ?_ | refine mAgg_mk ?_ | refine mPtr_mk ?_ | refine mStr_mk ?_)
    refine br (fun h => by simp at h) (fun _ => ?_)
    refine br (fun h => by simp at h) (fun _ => ?_)
    refine br (fun h => by simp at h) (fun _ => ?_)
    refine wLoop (fun k s w' => ∃ (i : Nat) (g : Bags) (R : RefR) (tm : Int), k + i = l.length ∧ s = (b, l.length, c, some ⟨nb, 0, none⟩, some ⟨rb, 0, none⟩, (i : Int)) ∧ Same nd bd g R.l ∧ R.l.length ≤ i * 101 ∧ 0 ≤ tm ∧ tm ≤ i ∧
      St w (fps []) w' [netO nb bm nd bd tm g, refO rb nd bd tm R]) ?_ ?_
    · exact ⟨l.length, 0, [], ⟨none, 0, 0, []⟩, 0, by omega, rfl, same_start nd bd hok.2.2.1, Nat.le_refl _, Int.le_refl _, Int.le_refl _, (H.front (netO nb bm nd bd 0 [])).left (L := [_, _])⟩
    clear H
    rintro k s w1 ⟨i, g, R, tm, hk, rfl, hs, hR, ht0, ht1, H⟩
    refine br (fun h => ?_) (fun _ => ⟨_, ⟨rfl, rfl⟩, H.right (L := [_, _])⟩)
    have hi : i < l.length := by simp at h; omega
    obtain ⟨x, hx⟩ : ∃ x, l[i]? = some x := ⟨_, List.getElem?_eq_getElem hi⟩
    have hsx := hsm x (List.mem_of_getElem? hx)
    have hxo := hb.2 x (List.mem_of_getElem? hx)
    refine wIXa (hb.stays H.fr) hx rfl fun ad ha => ?_
    refine ldI (ha 0 _ rfl) (ldI (ha 1 _ rfl) (ldI (ha 2 _ rfl) (ldI (ha 3 _ rfl) (ldSl (ha 4 _ rfl) (ldSl (ha 5 _ rfl) ?_)))))
    clear ha
    have hR8 : R.l.length ≤ 800000 := by omega
    refine wCall H (fun hA => step_spec (x := x) hA hs ⟨hok.2.2.1, hok.2.2.2⟩ hR8 ⟨ht0, by omega⟩ (St.extC (w := w) (B := []) H (by decide) hxo.1) (St.extC (w := w) (B := []) H (by decide) hxo.2) hsx.1 hsx.2) (hK := ?_)
    rintro r w2 A' ⟨rfl, g', R', tm', hs', hR', ht2, ht3, rfl⟩ _ H
    repeat (first | refine nn ?_ | refine wI H (hK := ?_) | refine wP H (hK := ?_) | refine wM H (hK := ?_) | refine wSl H (hK := ?_) | refine wB H (hK := ?_) | refine wS H (hK := ?_) | refine wEq ?_ | refine wC H (hK := ?_) | (refine wLW H ?_; intro w1 H) | (refine wST H (hK := ?_); intro w1 H _) | refine mSlice_mk ?_ | refine mInt_mk ?_ | refine mBool_mk ?_ | refine mTup_mk ?_ | refine mCons_mk ?_ | refine mNil_mk ?_ | refine mAgg_mk ?_ | refine mPtr_mk ?_ | refine mStr_mk ?_)
    refine br (fun h => by simp at h) (fun _ => ?_)
    have hgl : g'.length ≤ 1000000 := by
      have h1 := rows_le hs'.rows
      have Hn := H.netOpen
      have h2 := total_bags (bags_nodup (Hn.has.all (bagsM bm g') (by simp))) hs'.bags
      omega
    refine wCall H (fun hA => links_spec hA hs' ⟨hok.1, hok.2.1⟩ hgl (by omega)) (hK := ?_)
    rintro r w3 A' ⟨rfl, rfl⟩ _ H
    repeat (first | refine nn ?_ | refine wI H (hK := ?_) | refine wP H (hK := ?_) | refine wM H (hK := ?_) | refine wSl H (hK := ?_) | refine wB H (hK := ?_) | refine wS H (hK := ?_) | refine wEq ?_ | refine wC H (hK := ?_) | (refine wLW H ?_; intro w1 H) | (refine wST H (hK := ?_); intro w1 H _) | refine mSlice_mk ?_ | refine mInt_mk ?_ | refine mBool_mk ?_ | refine mTup_mk ?_ | refine mCons_mk ?_ | refine mNil_mk ?_ | refine mAgg_mk ?_ | refine mPtr_mk ?_ | refine mStr_mk ?_)
    refine br (fun h => by simp at h) (fun _ => ?_)
    have hw : IntKind.wrap .i64 ((i : Int) + 1) = ((i + 1 : Nat) : Int) := by rw [wrap_id (by omega) (by omega)]; rfl
    show ∃ k', k' < k ∧ _
    refine ⟨k - 1, by omega, i + 1, g', R', tm', by omega, by rw [hw], hs', by omega, by omega, by omega, H.left (L := [_, _])⟩
  · obtain ⟨rfl, rfl⟩ := hr2 hok
    repeat (first | refine nn ?_ | refine wI H (hK := ?_) | refine wP H (hK := ?_) | refine wM H (hK := ?_) | refine wSl H (hK := ?_) | refine wB H (hK := ?_) | refine wS H (hK := ?_) | refine wEq ?_ | refine wC H (hK := ?_) | (refine wLW H ?_; intro w1 H) | (refine wST H (hK := ?_); intro w1 H _) | refine mSlice_mk ?_ | refine mInt_mk ?_ | refine mBool_mk ?_ | refine mTup_mk ?_ | refine mCons_mk ?_ | refine mNil_mk ?_ | refine mAgg_mk ?_ | refine mPtr_mk ?_ | refine mStr_mk ?_)
    refine wCall H (fun _ => rNew_spec nd bd w1) (hK := ?_)
    rintro r w1 A' ⟨_, hr2⟩ _ H
    obtain ⟨rfl, rfl⟩ := hr2 hok
    repeat (first | refine nn ?_ | refine wI H (hK := ?_) | refine wP H (hK := ?_) | refine wM H (hK := ?_) | refine wSl H (hK := ?_) | refine wB H (hK := ?_) | refine wS H (hK := ?_) | refine wEq ?_ | refine wC H (hK := ?_) | (refine wLW H ?_; intro w1 H) | (refine wST H (hK := ?_); intro w1 H _) | refine mSlice_mk ?_ | refine mInt_mk ?_ | refine mBool_mk ?_ | refine mTup_mk ?_ | refine mCons_mk ?_ | refine mNil_mk ?_ | refine mAgg_mk ?_ | refine mPtr_mk ?_ | refine mStr_mk ?_)
    refine br (fun h => by simp at h) (fun _ => ?_)
    refine br (fun h => by simp at h) (fun _ => ?_)
    refine br (fun _ => ?_) (fun h => by simp at h)
    exact ⟨[], ⟨rfl, rfl⟩, H.left (L := [])⟩
end
end Go.Proofs.Ytienifnpacoahaa
