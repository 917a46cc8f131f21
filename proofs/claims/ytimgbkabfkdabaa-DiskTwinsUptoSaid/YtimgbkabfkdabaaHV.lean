/- The files as lists of bytes; the known example. -/
import Derived.Test.YtimgbkabfkdabaaHU
import Derived.Test.YtimgbkabfkdabaaShLaws
namespace Go.Proofs.Ytimgbkabfkdabaa
open Go.Sh
attribute [local irreducible] rRun LDI LDB LDS LDP LDSl LDM LD Go.Sh.ST AL ALM LetW CallR CallV CallI NN IX SIX Br Req mInt mBool mStr mPtr mSlice mMap mAgg mTup mCons mNil mNth mPA LoopS

theorem look_some {l : Files} {s : ByteArray} {x : List UInt8 × Nat} (h : look l s = some x) : ∃ f, aget l s = some f ∧ f.bs = x.1 ∧ f.syn = x.2 := by
  unfold look at h
  cases hg : aget l s with
  | none => rw [hg] at h; cases h
  | some f => rw [hg] at h; cases h; exact ⟨f, rfl, rfl, rfl⟩
theorem look_none {l : Files} {s : ByteArray} : look l s = none ↔ aget l s = none := by
  unfold look
  cases aget l s <;> simp
theorem bsOf_look {l : Files} {s : ByteArray} : bsOf l s = ((look l s).map (·.1)).getD [] := by
  unfold bsOf look
  cases aget l s <;> rfl
theorem synOf_look {l : Files} {s : ByteArray} : synOf l s = ((look l s).map (·.2)).getD 0 := by
  unfold synOf look
  cases aget l s <;> rfl
theorem look_sync (l : Files) (s t : ByteArray) : look (syncOne l s) t = if t = s then (look l s).map (fun x => (x.1, x.1.length)) else look l t := by
  unfold syncOne
  cases hg : aget l s with
  | none =>
    simp only
    split
    · rename_i h; subst h; unfold look; rw [hg]; rfl
    · rfl
  | some f =>
    simp only
    split
    · rename_i h; subst h; rw [look_aput]; unfold look; rw [hg]; rfl
    · rename_i h; rw [look_aput_ne _ _ h]
theorem keys_sync (l : Files) (s : ByteArray) : keysOf (syncOne l s) = keysOf l := by
  unfold syncOne
  cases hg : aget l s with
  | none => rfl
  | some f => exact aput_keys _ hg
theorem total_sync (l : Files) (s : ByteArray) : total (syncOne l s) = total l := by
  unfold syncOne
  cases hg : aget l s with
  | none => rfl
  | some f => simp only; rw [total_aput]; have := total_adel hg; simp only; omega
theorem total_append {l : Files} {s : ByteArray} {f : FileR} {more : List UInt8} (h : f.bs = bsOf l s ++ more) : total (aput l s f) = total l + more.length := by
  rw [total_aput, h, List.length_append]
  unfold bsOf
  cases hg : aget l s with
  | none => rw [adel_none hg]; simp; omega
  | some g =>
    have := total_adel hg
    simp only [Option.map_some, Option.getD_some]
    omega
theorem keys_aput_new {l : Files} {s : ByteArray} (f : FileR) (h : look l s = none) : keysOf (aput l s f) = keysOf l ++ [s] := by
  unfold keysOf
  rw [aput_none f (look_none.1 h)]
  simp
theorem keys_aput_old {l : Files} {s : ByteArray} (f : FileR) {x : List UInt8 × Nat} (h : look l s = some x) : keysOf (aput l s f) = keysOf l := by
  obtain ⟨g, hg, _⟩ := look_some h
  exact aput_keys f hg
theorem whole_of {l : Files} (h : ∀ s x, look l s = some x → x.2 ≤ x.1.length) : whole l := fun s f hf => h s (f.bs, f.syn) (by unfold look; rw [hf]; rfl)
theorem sorted_sortB {ns : List ByteArray} (h : (ns.map lettersOf).Pairwise fun x y => decide (x ≤ y) = true) : sortB ns = ns := by
  unfold sortB
  rw [List.mergeSort_of_pairwise h, List.map_map]
  conv => rhs; rw [← List.map_id ns]
  apply List.map_congr_left
  intro x _
  simp

section
variable {w0 w : World} {F : List Nat} {L R : List Own}
theorem ext_part {A B : List Own} {b n : Nat} {c : Array Value} {e : TypeId} {fz : Nat × Nat} {p : PartR} (H : St w0 F w (A ++ B)) (hm : pt b (.cells c e fz) ∈ B) (hc : c = ⟨[p.hdr]⟩) (hp : Ext w A 1 p.hdr (bvals p.bs)) (hn : n = 1) :
    ExtP w A (.slice (some ⟨b, 0, none⟩) n n) [p] := by
  subst hn
  refine ⟨ext_pt H hm rfl (Nat.le_refl _) hc, fun q hq => ?_⟩
  rw [List.mem_singleton.1 hq]
  exact hp

set_option maxHeartbeats 2000000 in
theorem known_spec (w : World) : CallS Try.prog fn_glacierlaw2_known #[] w [] fun r _ A => r = .bool true ∧ A = [] := by
  refine CallS_intro (.nil w) fun H => glacierlaw2_known_sound _ _ ?_
  refine wCall H (fun _ => New_spec 100 w) (hK := ?_)
  rintro r w1 A' ⟨hr, _⟩ _ H
  obtain ⟨db, bm, rfl, rfl⟩ := hr (by decide)
  repeat (first | refine nn ?_ | refine wI H (hK := ?_) | refine wP H (hK := ?_) | refine wM H (hK := ?_) | refine wSl H (hK := ?_) | refine wB H (hK := ?_) | refine wS H (hK := ?_) | refine wEq ?_ | refine wC H (hK := ?_) | (refine wLW H ?_; intro w1 H) | (refine wST H (hK := ?_); intro w1 H _) | refine mSlice_mk ?_ | refine mInt_mk ?_ | refine mBool_mk ?_ | refine mTup_mk ?_ | refine mCons_mk ?_ | refine mNil_mk ?_ | refine mAgg_mk ?_ | refine mPtr_mk ?_ | refine mStr_mk ?_)
  refine br (fun h => by simp at h) (fun _ => ?_)
  refine br (fun h => by simp at h) (fun _ => ?_)
  refine wALconv elem_bytes.under (by kernel_rfl) H fun b w1 H => ?_
  repeat (first | refine nn ?_ | refine wI H (hK := ?_) | refine wP H (hK := ?_) | refine wM H (hK := ?_) | refine wSl H (hK := ?_) | refine wB H (hK := ?_) | refine wS H (hK := ?_) | refine wEq ?_ | refine wC H (hK := ?_) | (refine wLW H ?_; intro w1 H) | (refine wST H (hK := ?_); intro w1 H _) | refine mSlice_mk ?_ | refine mInt_mk ?_ | refine mBool_mk ?_ | refine mTup_mk ?_ | refine mCons_mk ?_ | refine mNil_mk ?_ | refine mAgg_mk ?_ | refine mPtr_mk ?_ | refine mStr_mk ?_)
  refine wAL H fun b1 w1 H => ?_
  have H := H.front (diskO db bm 100 0 0 [])
  have hna : nameOk ⟨#[97]⟩ = true := by decide
  have hnb : nameOk ⟨#[98]⟩ = true := by decide
  have hab : (⟨#[98]⟩ : ByteArray) ≠ ⟨#[97]⟩ := by decide
  refine wCall H (fun hA => Append_spec (ps := [⟨some ⟨b, 0, none⟩, 2, 2, [120, 121]⟩]) hA (ext_part (A := [_]) H (by simp; exact .inl rfl) rfl (ext_pt (A := [_]) H (by simp; exact .inr rfl) rfl (Nat.le_refl _) rfl) rfl) (by simp [plen]) (by simp) (by decide) (by decide)) (hK := ?_)
  rintro r w1 A' (⟨hc, _⟩ | ⟨_, hc, _⟩ | ⟨_, _, rfl, f1, hf1, hs1, rfl⟩) _ H
  · rw [hna] at hc; cases hc
  · simp [plen] at hc
  have hk1 : keysOf (aput ([] : Files) ⟨#[97]⟩ f1) = [⟨#[97]⟩] := rfl
  have ha1 : look (aput ([] : Files) ⟨#[97]⟩ f1) ⟨#[97]⟩ = some ([120, 121], 0) := by rw [look_aput, hf1, hs1]; rfl
  have hb1 : look (aput ([] : Files) ⟨#[97]⟩ f1) ⟨#[98]⟩ = none := by rw [look_aput_ne _ _ hab]; rfl
  have ho1 : ∀ s, s ≠ ⟨#[97]⟩ → look (aput ([] : Files) ⟨#[97]⟩ f1) s = none := fun s hs => by rw [look_aput_ne _ _ hs]; rfl
  have ht1 : total (aput ([] : Files) ⟨#[97]⟩ f1) = 2 := by rw [total_append hf1]; rfl
  generalize aput ([] : Files) ⟨#[97]⟩ f1 = l1 at H hk1 ha1 hb1 ho1 ht1
  rw [show (0 : Int) + (plen [⟨some ⟨b, 0, none⟩, 2, 2, [120, 121]⟩] : Int) = 2 from rfl] at H
  repeat (first | refine nn ?_ | refine wI H (hK := ?_) | refine wP H (hK := ?_) | refine wM H (hK := ?_) | refine wSl H (hK := ?_) | refine wB H (hK := ?_) | refine wS H (hK := ?_) | refine wEq ?_ | refine wC H (hK := ?_) | (refine wLW H ?_; intro w1 H) | (refine wST H (hK := ?_); intro w1 H _) | refine mSlice_mk ?_ | refine mInt_mk ?_ | refine mBool_mk ?_ | refine mTup_mk ?_ | refine mCons_mk ?_ | refine mNil_mk ?_ | refine mAgg_mk ?_ | refine mPtr_mk ?_ | refine mStr_mk ?_)
  refine wAL H fun b2 w1 H => ?_
  have H := H.front (diskO db bm 100 2 0 l1)
  refine wCall H (fun hA => Sync_spec (ns := [⟨#[97]⟩]) hA (ext_pt (A := [_]) H (by simp; exact .inl rfl) rfl (Nat.le_refl _) rfl) (by simp)) (hK := ?_)
  rintro r w1 A' (⟨hc, _⟩ | ⟨_, rfl, rfl⟩) _ H
  · have : allIn l1 [⟨#[97]⟩] = true := by
      obtain ⟨g, hg, _⟩ := look_some ha1
      simp [allIn, hg]
    rw [this] at hc; cases hc
  have e2 : List.foldl syncOne l1 [⟨#[97]⟩] = syncOne l1 ⟨#[97]⟩ := rfl
  rw [e2] at H
  have hk2 : keysOf (syncOne l1 ⟨#[97]⟩) = [⟨#[97]⟩] := by rw [keys_sync, hk1]
  have ha2 : look (syncOne l1 ⟨#[97]⟩) ⟨#[97]⟩ = some ([120, 121], 2) := by rw [look_sync, if_pos rfl, ha1]; rfl
  have ho2 : ∀ s, s ≠ ⟨#[97]⟩ → look (syncOne l1 ⟨#[97]⟩) s = none := fun s hs => by rw [look_sync, if_neg hs, ho1 s hs]
  have ht2 : total (syncOne l1 ⟨#[97]⟩) = 2 := by rw [total_sync, ht1]
  generalize syncOne l1 ⟨#[97]⟩ = l2 at H hk2 ha2 ho2 ht2
  repeat (first | refine nn ?_ | refine wI H (hK := ?_) | refine wP H (hK := ?_) | refine wM H (hK := ?_) | refine wSl H (hK := ?_) | refine wB H (hK := ?_) | refine wS H (hK := ?_) | refine wEq ?_ | refine wC H (hK := ?_) | (refine wLW H ?_; intro w1 H) | (refine wST H (hK := ?_); intro w1 H _) | refine mSlice_mk ?_ | refine mInt_mk ?_ | refine mBool_mk ?_ | refine mTup_mk ?_ | refine mCons_mk ?_ | refine mNil_mk ?_ | refine mAgg_mk ?_ | refine mPtr_mk ?_ | refine mStr_mk ?_)
  refine wALconv elem_bytes.under (by kernel_rfl) H fun b3 w1 H => ?_
  repeat (first | refine nn ?_ | refine wI H (hK := ?_) | refine wP H (hK := ?_) | refine wM H (hK := ?_) | refine wSl H (hK := ?_) | refine wB H (hK := ?_) | refine wS H (hK := ?_) | refine wEq ?_ | refine wC H (hK := ?_) | (refine wLW H ?_; intro w1 H) | (refine wST H (hK := ?_); intro w1 H _) | refine mSlice_mk ?_ | refine mInt_mk ?_ | refine mBool_mk ?_ | refine mTup_mk ?_ | refine mCons_mk ?_ | refine mNil_mk ?_ | refine mAgg_mk ?_ | refine mPtr_mk ?_ | refine mStr_mk ?_)
  refine wAL H fun b4 w1 H => ?_
  have H := H.front (diskO db bm 100 2 0 l2)
  refine wCall H (fun hA => Append_spec (ps := [⟨some ⟨b3, 0, none⟩, 2, 2, [122, 119]⟩]) hA (ext_part (A := [_]) H (by simp; exact .inl rfl) rfl (ext_pt (A := [_]) H (by simp; exact .inr (.inl rfl)) rfl (Nat.le_refl _) rfl) rfl) (by simp [plen]) (by simp) (by decide) (by rw [bsOf_look, ha2]; decide)) (hK := ?_)
  rintro r w1 A' (⟨hc, _⟩ | ⟨_, hc, _⟩ | ⟨_, _, rfl, f3, hf3, hs3, rfl⟩) _ H
  · rw [hna] at hc; cases hc
  · simp [plen] at hc
  have hk3 : keysOf (aput l2 ⟨#[97]⟩ f3) = [⟨#[97]⟩] := by rw [keys_aput_old f3 ha2, hk2]
  have ha3 : look (aput l2 ⟨#[97]⟩ f3) ⟨#[97]⟩ = some ([120, 121, 122, 119], 2) := by rw [look_aput, hf3, hs3, bsOf_look, synOf_look, ha2]; rfl
  have ho3 : ∀ s, s ≠ ⟨#[97]⟩ → look (aput l2 ⟨#[97]⟩ f3) s = none := fun s hs => by rw [look_aput_ne _ _ hs, ho2 s hs]
  have ht3 : total (aput l2 ⟨#[97]⟩ f3) = 4 := by rw [total_append hf3, ht2]; rfl
  generalize aput l2 ⟨#[97]⟩ f3 = l3 at H hk3 ha3 ho3 ht3
  rw [show (2 : Int) + (plen [⟨some ⟨b3, 0, none⟩, 2, 2, [122, 119]⟩] : Int) = 4 from rfl] at H
  repeat (first | refine nn ?_ | refine wI H (hK := ?_) | refine wP H (hK := ?_) | refine wM H (hK := ?_) | refine wSl H (hK := ?_) | refine wB H (hK := ?_) | refine wS H (hK := ?_) | refine wEq ?_ | refine wC H (hK := ?_) | (refine wLW H ?_; intro w1 H) | (refine wST H (hK := ?_); intro w1 H _) | refine mSlice_mk ?_ | refine mInt_mk ?_ | refine mBool_mk ?_ | refine mTup_mk ?_ | refine mCons_mk ?_ | refine mNil_mk ?_ | refine mAgg_mk ?_ | refine mPtr_mk ?_ | refine mStr_mk ?_)
  refine wALconv elem_bytes.under (by kernel_rfl) H fun b5 w1 H => ?_
  repeat (first | refine nn ?_ | refine wI H (hK := ?_) | refine wP H (hK := ?_) | refine wM H (hK := ?_) | refine wSl H (hK := ?_) | refine wB H (hK := ?_) | refine wS H (hK := ?_) | refine wEq ?_ | refine wC H (hK := ?_) | (refine wLW H ?_; intro w1 H) | (refine wST H (hK := ?_); intro w1 H _) | refine mSlice_mk ?_ | refine mInt_mk ?_ | refine mBool_mk ?_ | refine mTup_mk ?_ | refine mCons_mk ?_ | refine mNil_mk ?_ | refine mAgg_mk ?_ | refine mPtr_mk ?_ | refine mStr_mk ?_)
  refine wAL H fun b6 w1 H => ?_
  have H := H.front (diskO db bm 100 4 0 l3)
  have hb3 := ho3 _ hab
  refine wCall H (fun hA => Append_spec (ps := [⟨some ⟨b5, 0, none⟩, 1, 1, [113]⟩]) hA (ext_part (A := [_]) H (by simp; exact .inl rfl) rfl (ext_pt (A := [_]) H (by simp; exact .inr (.inl rfl)) rfl (Nat.le_refl _) rfl) rfl) (by simp [plen]) (by simp) (by decide) (by rw [bsOf_look, hb3]; decide)) (hK := ?_)
  rintro r w1 A' (⟨hc, _⟩ | ⟨_, hc, _⟩ | ⟨_, _, rfl, f4, hf4, hs4, rfl⟩) _ H
  · rw [hnb] at hc; cases hc
  · simp [plen] at hc
  have hk4 : keysOf (aput l3 ⟨#[98]⟩ f4) = [⟨#[97]⟩, ⟨#[98]⟩] := by rw [keys_aput_new f4 hb3, hk3]; rfl
  have ha4 : look (aput l3 ⟨#[98]⟩ f4) ⟨#[97]⟩ = some ([120, 121, 122, 119], 2) := by rw [look_aput_ne _ _ (Ne.symm hab), ha3]
  have hb4 : look (aput l3 ⟨#[98]⟩ f4) ⟨#[98]⟩ = some ([113], 0) := by rw [look_aput, hf4, hs4, bsOf_look, synOf_look, hb3]; rfl
  have ho4 : ∀ s, s ≠ ⟨#[97]⟩ → s ≠ ⟨#[98]⟩ → look (aput l3 ⟨#[98]⟩ f4) s = none := fun s hs hs2 => by rw [look_aput_ne _ _ hs2, ho3 s hs]
  have ht4 : total (aput l3 ⟨#[98]⟩ f4) = 5 := by rw [total_append hf4, ht3]; rfl
  generalize aput l3 ⟨#[98]⟩ f4 = l4 at H hk4 ha4 hb4 ho4 ht4
  rw [show (4 : Int) + (plen [⟨some ⟨b5, 0, none⟩, 1, 1, [113]⟩] : Int) = (5 : Nat) from rfl, ← ht4] at H
  repeat (first | refine nn ?_ | refine wI H (hK := ?_) | refine wP H (hK := ?_) | refine wM H (hK := ?_) | refine wSl H (hK := ?_) | refine wB H (hK := ?_) | refine wS H (hK := ?_) | refine wEq ?_ | refine wC H (hK := ?_) | (refine wLW H ?_; intro w1 H) | (refine wST H (hK := ?_); intro w1 H _) | refine mSlice_mk ?_ | refine mInt_mk ?_ | refine mBool_mk ?_ | refine mTup_mk ?_ | refine mCons_mk ?_ | refine mNil_mk ?_ | refine mAgg_mk ?_ | refine mPtr_mk ?_ | refine mStr_mk ?_)
  refine wAL H fun b7 w1 H => ?_
  have H := H.front (diskO db bm 100 (total l4) 0 l4)
  have hwh : whole l4 := whole_of fun s x hx => by
    by_cases h1 : s = ⟨#[97]⟩
    · subst h1; rw [ha4] at hx; cases hx; decide
    · by_cases h2 : s = ⟨#[98]⟩
      · subst h2; rw [hb4] at hx; cases hx; decide
      · rw [ho4 s h1 h2] at hx; cases hx
  have hlen4 : l4.length = 2 := by
    have := congrArg List.length hk4
    simpa [keysOf] using this
  refine wCall H (fun hA => Crash_spec (picks := [1]) hA (ext_pt (A := [_]) H (by simp; exact .inl rfl) rfl (Nat.le_refl _) rfl) (by rw [hlen4]; decide) hwh rfl (by rw [ht4]; decide)) (hK := ?_)
  rintro r w1 A' ⟨rfl, l5, hcr, rfl⟩ _ H
  have hsort : sortB (keysOf l4) = [⟨#[97]⟩, ⟨#[98]⟩] := by rw [hk4]; exact sorted_sortB (by decide)
  rw [hsort] at hcr
  have ha5 : look l5 ⟨#[97]⟩ = some ([120, 121, 122], 3) := by rw [hcr.done 0 ⟨#[97]⟩ (by decide) rfl, ha4]; decide
  have hb5 : look l5 ⟨#[98]⟩ = some ([], 0) := by rw [hcr.done 1 ⟨#[98]⟩ (by decide) rfl, hb4]; decide
  have hk5 : keysOf l5 = [⟨#[97]⟩, ⟨#[98]⟩] := by rw [hcr.keys, hk4]
  have hlen5 : l5.length = 2 := by
    have := congrArg List.length hk5
    simpa [keysOf] using this
  obtain ⟨g5, hg5, hg5b, _⟩ := look_some ha5
  obtain ⟨q5, hq5, hq5b, _⟩ := look_some hb5
  generalize (total l5 : Int) = u5 at H
  repeat (first | refine nn ?_ | refine wI H (hK := ?_) | refine wP H (hK := ?_) | refine wM H (hK := ?_) | refine wSl H (hK := ?_) | refine wB H (hK := ?_) | refine wS H (hK := ?_) | refine wEq ?_ | refine wC H (hK := ?_) | (refine wLW H ?_; intro w1 H) | (refine wST H (hK := ?_); intro w1 H _) | refine mSlice_mk ?_ | refine mInt_mk ?_ | refine mBool_mk ?_ | refine mTup_mk ?_ | refine mCons_mk ?_ | refine mNil_mk ?_ | refine mAgg_mk ?_ | refine mPtr_mk ?_ | refine mStr_mk ?_)
  refine wCall H (fun hA => Read_spec (s := ⟨#[97]⟩) hA (fun f hf => by rw [hg5] at hf; cases hf; rw [hg5b]; decide)) (hK := ?_)
  rintro r w1 A' (⟨hc, _⟩ | ⟨f, xa, xn, xc, hf, rfl, rfl⟩) _ H
  · rw [hg5] at hc; cases hc
  rw [hg5] at hf
  cases hf
  rw [hg5b] at H
  repeat (first | refine nn ?_ | refine wI H (hK := ?_) | refine wP H (hK := ?_) | refine wM H (hK := ?_) | refine wSl H (hK := ?_) | refine wB H (hK := ?_) | refine wS H (hK := ?_) | refine wEq ?_ | refine wC H (hK := ?_) | (refine wLW H ?_; intro w1 H) | (refine wST H (hK := ?_); intro w1 H _) | refine mSlice_mk ?_ | refine mInt_mk ?_ | refine mBool_mk ?_ | refine mTup_mk ?_ | refine mCons_mk ?_ | refine mNil_mk ?_ | refine mAgg_mk ?_ | refine mPtr_mk ?_ | refine mStr_mk ?_)
  have H := H.front (diskO db bm 100 u5 0 l5)
  refine wCall H (fun hA => Read_spec (s := ⟨#[98]⟩) hA (fun f hf => by rw [hq5] at hf; cases hf; rw [hq5b]; decide)) (hK := ?_)
  rintro r w1 A' (⟨hc, _⟩ | ⟨f, ya, yn, yc, hf, rfl, rfl⟩) _ H
  · rw [hq5] at hc; cases hc
  rw [hq5] at hf
  cases hf
  rw [hq5b] at H
  repeat (first | refine nn ?_ | refine wI H (hK := ?_) | refine wP H (hK := ?_) | refine wM H (hK := ?_) | refine wSl H (hK := ?_) | refine wB H (hK := ?_) | refine wS H (hK := ?_) | refine wEq ?_ | refine wC H (hK := ?_) | (refine wLW H ?_; intro w1 H) | (refine wST H (hK := ?_); intro w1 H _) | refine mSlice_mk ?_ | refine mInt_mk ?_ | refine mBool_mk ?_ | refine mTup_mk ?_ | refine mCons_mk ?_ | refine mNil_mk ?_ | refine mAgg_mk ?_ | refine mPtr_mk ?_ | refine mStr_mk ?_)
  have hyn : yn = 0 := by
    obtain ⟨_, _, _, he, h1, _⟩ := (H.has.all (sliceO 5 1 (.slice ya yn yc) (bvals [])) (by simp) : SliceAt _ _ _ _ _)
    cases he
    simpa using h1
  subst hyn
  refine br (fun _ => ?_) (fun h => absurd h (by decide))
  refine br (fun _ => ?_) (fun h => by simp at h)
  have hread := (H.has.all (sliceO 5 1 (.slice xa xn xc) (bvals [120, 121, 122])) (by simp) : SliceAt _ _ _ _ _).reads
  refine wConvS hread elem_bytes.under (by kernel_rfl) (by kernel_rfl) ?_
  repeat (first | refine nn ?_ | refine wI H (hK := ?_) | refine wP H (hK := ?_) | refine wM H (hK := ?_) | refine wSl H (hK := ?_) | refine wB H (hK := ?_) | refine wS H (hK := ?_) | refine wEq ?_ | refine wC H (hK := ?_) | (refine wLW H ?_; intro w1 H) | (refine wST H (hK := ?_); intro w1 H _) | refine mSlice_mk ?_ | refine mInt_mk ?_ | refine mBool_mk ?_ | refine mTup_mk ?_ | refine mCons_mk ?_ | refine mNil_mk ?_ | refine mAgg_mk ?_ | refine mPtr_mk ?_ | refine mStr_mk ?_)
  refine br (fun _ => ?_) (fun h => by simp at h)
  refine br (fun _ => ?_) (fun h => by simp at h)
  refine br (fun _ => ?_) (fun h => by simp at h)
  have H := H.front (diskO db bm 100 u5 0 l5)
  refine wCall H (fun hA => List_spec (ps := []) hA ⟨⟨_, _, _, rfl, rfl, Nat.le_refl _, .inl rfl⟩, fun b hb => by simp [sblk] at hb⟩ (by simp) (by rw [hlen5]; decide)) (hK := ?_)
  rintro r w1 A' ⟨za, zn, zc, rfl, rfl⟩ _ H
  have hzn : zn = 2 := by
    obtain ⟨_, _, _, he, h1, _⟩ := (H.get (i := 0) rfl : SliceAt _ 9 1 _ _)
    cases he
    have : (sortB (keysOf l5)).length = 2 := by rw [(sortB_permOf _).length_eq, hk5]; rfl
    rw [listed_nil] at h1
    simpa [strs, this] using h1
  subst hzn
  repeat (first | refine nn ?_ | refine wI H (hK := ?_) | refine wP H (hK := ?_) | refine wM H (hK := ?_) | refine wSl H (hK := ?_) | refine wB H (hK := ?_) | refine wS H (hK := ?_) | refine wEq ?_ | refine wC H (hK := ?_) | (refine wLW H ?_; intro w1 H) | (refine wST H (hK := ?_); intro w1 H _) | refine mSlice_mk ?_ | refine mInt_mk ?_ | refine mBool_mk ?_ | refine mTup_mk ?_ | refine mCons_mk ?_ | refine mNil_mk ?_ | refine mAgg_mk ?_ | refine mPtr_mk ?_ | refine mStr_mk ?_)
  exact ⟨[], ⟨rfl, rfl⟩, H.left (L := [])⟩
end
end Go.Proofs.Ytimgbkabfkdabaa
