/- DiskRenames: what it walks. -/
import Derived.Test.YtimgbkabfkdabaaHV
import Derived.Test.YtimgbkabfkdabaaShMore
namespace Go.Proofs.Ytimgbkabfkdabaa
open Go.Sh
attribute [local irreducible] rRun LDI LDB LDS LDP LDSl LDM LD Go.Sh.ST AL ALM LetW CallR CallV CallI NN IX SIX Br Req mInt mBool mStr mPtr mSlice mMap mAgg mTup mCons mNil mNth mPA LoopS

theorem crashF_full (p : Option Int) (bs : List UInt8) : crashF p (bs, bs.length) = (bs, bs.length) := by
  have h : pickK p 0 = 0 := Nat.le_zero.1 (pickK_le p 0)
  unfold crashF
  simp only [Nat.sub_self, h, Nat.add_zero, List.take_length]
theorem Crashed.full {picks : List Int} {ns : List ByteArray} {i : Nat} {l l' : Files} {s : ByteArray} {bs : List UInt8} (h : Crashed picks ns i l l') (hs : look l s = some (bs, bs.length)) : look l' s = some (bs, bs.length) := by
  by_cases hx : ∃ j, j < i ∧ ns[j]? = some s
  · obtain ⟨j, hj, hjs⟩ := hx
    rw [h.done j s hj hjs, hs, Option.map_some, crashF_full]
  · rw [h.rest s fun j hj hc => hx ⟨j, hj, hc⟩, hs]
theorem look_adel {l : Files} {k s : ByteArray} (h : (keysOf l).Nodup) : look (adel l k) s = if s = k then none else look l s := by
  split
  · rename_i e; subst e
    unfold look
    rw [aget_adel_self h]; rfl
  · rename_i e
    unfold look
    rw [aget_adel_ne e]

section
variable {w0 w : World} {F : List Nat} {L R : List Own}
abbrev nF : ByteArray := ⟨#[102]⟩
abbrev nT : ByteArray := ⟨#[102, 46, 116, 109, 112]⟩
theorem nTF : nT ≠ nF := by decide
/-- The two files. -/
structure RS (l : Files) (old : List UInt8) (x : Option (List UInt8 × Nat)) : Prop where
  f : look l nF = some (old, old.length)
  t : look l nT = x
  o : ∀ s, s ≠ nF → s ≠ nT → look l s = none
  tot : total l ≤ 20000
  len : l.length ≤ 2
theorem RS.whole {l : Files} {old : List UInt8} {x : Option (List UInt8 × Nat)} (h : RS l old x) (hx : ∀ y, x = some y → y.2 ≤ y.1.length) : Proofs.Ytimgbkabfkdabaa.whole l := whole_of fun s y hy => by
  by_cases h1 : s = nF
  · subst h1; rw [h.f] at hy; cases hy; exact Nat.le_refl _
  · by_cases h2 : s = nT
    · subst h2; rw [h.t] at hy; exact hx y hy
    · rw [h.o s h1 h2] at hy; cases hy

variable {old now : List UInt8} {oa na : Option Addr} {oc nc : Nat} {at_ pick : Int} {db bm : Nat} {l : Files}
def okR (w : World) : Value → World → Prop := fun v w' => ∃ A', (v = .bool true ∧ A' = []) ∧ St w (fps []) w' A'
theorem renames_0 {w' : World} {want : List UInt8} (ho : Reads w 1 (.slice oa old.length oc) (bvals old)) (hn : Reads w 1 (.slice na now.length nc) (bvals now)) (hat : want = if at_ = 3 then now else old)
    (hl : look l nF = some (want, want.length)) (hw : whole l) (ht : total l ≤ 20000) (hlen : l.length ≤ 2)
    (H : St w (fps []) w' [diskO db bm 1048576 (total l) 0 l]) :
    glacierlaw2_DiskRenames_b0 oa old.length oc na now.length nc at_ pick (some ⟨db, 0, none⟩) (okR w) w' := by
  refine wAL H fun b4 w1 H => ?_
  have H := H.front (diskO db bm 1048576 (total l) 0 l)
  refine wCall H (fun hA => Crash_spec (picks := [pick, pick, pick]) hA (ext_pt (A := [_]) H (List.mem_singleton.2 rfl) rfl (Nat.le_refl _) rfl) (by omega) hw rfl (by omega)) (hK := ?_)
  rintro r w1 A' ⟨rfl, l5, hcr, rfl⟩ _ H
  have hl5 := hcr.full hl
  obtain ⟨g5, hg5, hg5b, _⟩ := look_some hl5
  have hle := hcr.less
  repeat (first | refine nn ?_ | refine wI H (hK := ?_) | refine wP H (hK := ?_) | refine wM H (hK := ?_) | refine wSl H (hK := ?_) | refine wB H (hK := ?_) | refine wS H (hK := ?_) | refine wEq ?_ | refine wC H (hK := ?_) | (refine wLW H ?_; intro w1 H) | (refine wST H (hK := ?_); intro w1 H _) | refine mSlice_mk ?_ | refine mInt_mk ?_ | refine mBool_mk ?_ | refine mTup_mk ?_ | refine mCons_mk ?_ | refine mNil_mk ?_ | refine mAgg_mk ?_ | refine mPtr_mk ?_ | refine mStr_mk ?_)
  have hb5 := total_adel hg5
  refine wCall H (fun hA => Read_spec (s := nF) hA (fun f hf => by rw [hg5] at hf; cases hf; omega)) (hK := ?_)
  rintro r w1 A' (⟨hc, _⟩ | ⟨f, xa, xn, xc, hf, rfl, rfl⟩) _ H
  · rw [hg5] at hc; cases hc
  rw [hg5] at hf
  cases hf
  rw [hg5b] at H
  repeat (first | refine nn ?_ | refine wI H (hK := ?_) | refine wP H (hK := ?_) | refine wM H (hK := ?_) | refine wSl H (hK := ?_) | refine wB H (hK := ?_) | refine wS H (hK := ?_) | refine wEq ?_ | refine wC H (hK := ?_) | (refine wLW H ?_; intro w1 H) | (refine wST H (hK := ?_); intro w1 H _) | refine mSlice_mk ?_ | refine mInt_mk ?_ | refine mBool_mk ?_ | refine mTup_mk ?_ | refine mCons_mk ?_ | refine mNil_mk ?_ | refine mAgg_mk ?_ | refine mPtr_mk ?_ | refine mStr_mk ?_)
  have hread := (H.has.all (sliceO 5 1 (.slice xa xn xc) (bvals want)) (by simp) : SliceAt _ _ _ _ _).reads
  refine br (fun h => ?_) (fun h => ?_)
  · have h3 : at_ = 3 := by simpa using h
    rw [if_pos h3] at hat
    refine br (fun _ => ?_) (fun h => absurd h (by decide))
    refine wConvS hread elem_bytes.under (by kernel_rfl) (by kernel_rfl) ?_
    repeat (first | refine nn ?_ | refine wI H (hK := ?_) | refine wP H (hK := ?_) | refine wM H (hK := ?_) | refine wSl H (hK := ?_) | refine wB H (hK := ?_) | refine wS H (hK := ?_) | refine wEq ?_ | refine wC H (hK := ?_) | (refine wLW H ?_; intro w1 H) | (refine wST H (hK := ?_); intro w1 H _) | refine mSlice_mk ?_ | refine mInt_mk ?_ | refine mBool_mk ?_ | refine mTup_mk ?_ | refine mCons_mk ?_ | refine mNil_mk ?_ | refine mAgg_mk ?_ | refine mPtr_mk ?_ | refine mStr_mk ?_)
    refine wConvS (St.readC (w := w) H (by decide) hn) elem_bytes.under (by kernel_rfl) (by kernel_rfl) ?_
    repeat (first | refine nn ?_ | refine wI H (hK := ?_) | refine wP H (hK := ?_) | refine wM H (hK := ?_) | refine wSl H (hK := ?_) | refine wB H (hK := ?_) | refine wS H (hK := ?_) | refine wEq ?_ | refine wC H (hK := ?_) | (refine wLW H ?_; intro w1 H) | (refine wST H (hK := ?_); intro w1 H _) | refine mSlice_mk ?_ | refine mInt_mk ?_ | refine mBool_mk ?_ | refine mTup_mk ?_ | refine mCons_mk ?_ | refine mNil_mk ?_ | refine mAgg_mk ?_ | refine mPtr_mk ?_ | refine mStr_mk ?_)
    refine ⟨[], ⟨?_, rfl⟩, H.left (L := [])⟩
    subst hat; simp
  · have h3 : ¬ at_ = 3 := by simpa using h
    rw [if_neg h3] at hat
    refine br (fun _ => ?_) (fun h => absurd h (by decide))
    refine wConvS hread elem_bytes.under (by kernel_rfl) (by kernel_rfl) ?_
    repeat (first | refine nn ?_ | refine wI H (hK := ?_) | refine wP H (hK := ?_) | refine wM H (hK := ?_) | refine wSl H (hK := ?_) | refine wB H (hK := ?_) | refine wS H (hK := ?_) | refine wEq ?_ | refine wC H (hK := ?_) | (refine wLW H ?_; intro w1 H) | (refine wST H (hK := ?_); intro w1 H _) | refine mSlice_mk ?_ | refine mInt_mk ?_ | refine mBool_mk ?_ | refine mTup_mk ?_ | refine mCons_mk ?_ | refine mNil_mk ?_ | refine mAgg_mk ?_ | refine mPtr_mk ?_ | refine mStr_mk ?_)
    refine wConvS (St.readC (w := w) H (by decide) ho) elem_bytes.under (by kernel_rfl) (by kernel_rfl) ?_
    repeat (first | refine nn ?_ | refine wI H (hK := ?_) | refine wP H (hK := ?_) | refine wM H (hK := ?_) | refine wSl H (hK := ?_) | refine wB H (hK := ?_) | refine wS H (hK := ?_) | refine wEq ?_ | refine wC H (hK := ?_) | (refine wLW H ?_; intro w1 H) | (refine wST H (hK := ?_); intro w1 H _) | refine mSlice_mk ?_ | refine mInt_mk ?_ | refine mBool_mk ?_ | refine mTup_mk ?_ | refine mCons_mk ?_ | refine mNil_mk ?_ | refine mAgg_mk ?_ | refine mPtr_mk ?_ | refine mStr_mk ?_)
    refine ⟨[], ⟨?_, rfl⟩, H.left (L := [])⟩
    subst hat; simp

theorem renames_1 {w' : World} {x : Option (List UInt8 × Nat)} (ho : Reads w 1 (.slice oa old.length oc) (bvals old)) (hn : Reads w 1 (.slice na now.length nc) (bvals now)) (hs : RS l old x) (hx : ∀ y, x = some y → y.2 ≤ y.1.length)
    (h3 : at_ ≥ 3 → x = some (now, now.length)) (hat : at_ ≤ 3)
    (H : St w (fps []) w' [diskO db bm 1048576 (total l) 0 l]) :
    glacierlaw2_DiskRenames_b1 oa old.length oc na now.length nc at_ pick (some ⟨db, 0, none⟩) (okR w) w' := by
  refine br (fun h => ?_) (fun h => ?_)
  · have h' : at_ ≥ 3 := by simpa using h
    have h3 := h3 h'
    have htot := hs.tot
    have hnd := keys_nodup (H.get (i := 0) rfl)
    obtain ⟨gf, hgf, hgfb, _⟩ := look_some hs.f
    have hT := hs.t
    rw [h3] at hT
    obtain ⟨gt, hgt, hgtb, hgts⟩ := look_some hT
    have tT := total_adel hgt
    have hgf' : aget (adel l nT) nF = some gf := by rw [aget_adel_ne (Ne.symm nTF), hgf]
    have tF := total_adel hgf'
    have hbo : (bsOf l nF).length = old.length := by rw [bsOf_look, hs.f]; rfl
    refine wCall H (fun hA => Rename_spec (s := nT) (t := nF) (l := l) (used := (total l : Int)) (born := 0) hA (by omega) (by rw [hbo, ← show gf.bs.length = old.length by rw [hgfb]]; omega)) (hK := ?_)
    rintro r w1 A' (⟨hc, _⟩ | ⟨f, _, hc, _⟩ | ⟨f, _, _, hc, _⟩ | ⟨f, hf, _, _, rfl, rfl⟩) _ H
    · rw [hgt] at hc; cases hc
    · exact absurd hc (by decide)
    · exact absurd hc nTF
    rw [hgt] at hf
    cases hf
    repeat (first | refine nn ?_ | refine wI H (hK := ?_) | refine wP H (hK := ?_) | refine wM H (hK := ?_) | refine wSl H (hK := ?_) | refine wB H (hK := ?_) | refine wS H (hK := ?_) | refine wEq ?_ | refine wC H (hK := ?_) | (refine wLW H ?_; intro w1 H) | (refine wST H (hK := ?_); intro w1 H _) | refine mSlice_mk ?_ | refine mInt_mk ?_ | refine mBool_mk ?_ | refine mTup_mk ?_ | refine mCons_mk ?_ | refine mNil_mk ?_ | refine mAgg_mk ?_ | refine mPtr_mk ?_ | refine mStr_mk ?_)
    have ta := total_aput (l := adel l nT) (s := nF) gt
    have e : (total l : Int) - (bsOf l nF).length = (total (aput (adel l nT) nF gt) : Int) := by
      rw [hbo, ← show gf.bs.length = old.length by rw [hgfb]]; omega
    rw [e] at H
    refine renames_0 (want := now) ho hn (by rw [if_pos (by omega)]) ?_ ?_ (by simp only at hgfb; omega) ?_ H
    · rw [look_aput, hgtb, hgts]
    · refine whole_of fun s y hy => ?_
      by_cases h1 : s = nF
      · subst h1; rw [look_aput, hgtb, hgts] at hy; cases hy; exact Nat.le_refl _
      · rw [look_aput_ne _ _ h1, look_adel hnd] at hy
        split at hy
        · cases hy
        · rename_i h2
          rw [hs.o s h1 h2] at hy; cases hy
    · have h1 : (keysOf (aput (adel l nT) nF gt)).length = (keysOf (adel l nT)).length := by rw [keys_aput_old gt (by unfold look; rw [hgf']; rfl)]
      have h2 := adel_len hgt
      have := hs.len
      simp [keysOf] at h1
      omega
  · have h' : ¬ at_ ≥ 3 := by simpa using h
    exact renames_0 (want := old) ho hn (by rw [if_neg (by omega)]) hs.f (hs.whole hx) hs.tot hs.len H
theorem nF_ok : nameOk nF = true := by decide
theorem nT_ok : nameOk nT = true := by decide
theorem renames_2 {w' : World} (ho : Reads w 1 (.slice oa old.length oc) (bvals old)) (hn : Reads w 1 (.slice na now.length nc) (bvals now)) (hs : RS l old (if at_ ≥ 1 then some (now, 0) else none)) (hat : at_ ≤ 3)
    (H : St w (fps []) w' [diskO db bm 1048576 (total l) 0 l]) :
    glacierlaw2_DiskRenames_b2 oa old.length oc na now.length nc at_ pick (some ⟨db, 0, none⟩) (okR w) w' := by
  refine br (fun h => ?_) (fun h => ?_)
  · have h' : at_ ≥ 2 := by simpa using h
    have hT := hs.t
    rw [if_pos (by omega)] at hT
    refine wAL H fun b w1 H => ?_
    have H := H.front (diskO db bm 1048576 (total l) 0 l)
    refine wCall H (fun hA => Sync_spec (ns := [nT]) hA (ext_pt (A := [_]) H (List.mem_singleton.2 rfl) rfl (Nat.le_refl _) rfl) (by simp)) (hK := ?_)
    rintro r w1 A' (⟨hc, _⟩ | ⟨_, rfl, rfl⟩) _ H
    · obtain ⟨g, hg, _⟩ := look_some hT
      simp [allIn, hg] at hc
    have e2 : List.foldl syncOne l [nT] = syncOne l nT := rfl
    rw [e2, ← total_sync l nT] at H
    repeat (first | refine nn ?_ | refine wI H (hK := ?_) | refine wP H (hK := ?_) | refine wM H (hK := ?_) | refine wSl H (hK := ?_) | refine wB H (hK := ?_) | refine wS H (hK := ?_) | refine wEq ?_ | refine wC H (hK := ?_) | (refine wLW H ?_; intro w1 H) | (refine wST H (hK := ?_); intro w1 H _) | refine mSlice_mk ?_ | refine mInt_mk ?_ | refine mBool_mk ?_ | refine mTup_mk ?_ | refine mCons_mk ?_ | refine mNil_mk ?_ | refine mAgg_mk ?_ | refine mPtr_mk ?_ | refine mStr_mk ?_)
    refine renames_1 (x := some (now, now.length)) ho hn ⟨?_, ?_, ?_, ?_, ?_⟩ (fun y hy => by cases hy; exact Nat.le_refl _) (fun _ => rfl) hat (H.left (L := [_]))
    · rw [look_sync, if_neg (Ne.symm nTF), hs.f]
    · rw [look_sync, if_pos rfl, hT]; rfl
    · intro s h1 h2; rw [look_sync, if_neg h2, hs.o s h1 h2]
    · rw [total_sync]; exact hs.tot
    · have := congrArg List.length (keys_sync l nT)
      have h3 := hs.len
      simp [keysOf] at this
      omega
  · have h' : ¬ at_ ≥ 2 := by simpa using h
    exact renames_1 (x := if at_ ≥ 1 then some (now, 0) else none) ho hn hs (fun y hy => by split at hy <;> cases hy; exact Nat.zero_le _) (fun h3 => by omega) hat H

theorem renames_3 {w' : World} (ho : Reads w 1 (.slice oa old.length oc) (bvals old)) (hn : Reads w 1 (.slice na now.length nc) (bvals now)) (hs : RS l old none) (ht : total l ≤ 10000) (hl1 : l.length ≤ 1) (hnl : now.length ≤ 10000) (hat : at_ ≤ 3)
    (H : St w (fps []) w' [diskO db bm 1048576 (total l) 0 l]) :
    glacierlaw2_DiskRenames_b3 oa old.length oc na now.length nc at_ pick (some ⟨db, 0, none⟩) (okR w) w' := by
  refine br (fun h => ?_) (fun h => ?_)
  · have h' : at_ ≥ 1 := by simpa using h
    refine wAL H fun b w1 H => ?_
    have H := H.front (diskO db bm 1048576 (total l) 0 l)
    have hbt : bsOf l nT = [] := by rw [bsOf_look, hs.t]; rfl
    have hpl : plen [⟨na, now.length, nc, now⟩] = now.length := by simp [plen]
    have hpb : pbs [⟨na, now.length, nc, now⟩] = now := by simp [pbs]
    refine wCall H (fun hA => Append_spec (ps := [⟨na, now.length, nc, now⟩]) hA (ext_part (A := [_]) H (List.mem_singleton.2 rfl) rfl (St.extC (w := w) (A := [_]) H (by decide) hn) rfl) (by rw [hpl]; omega) (by simp) (by omega) (by rw [hbt]; decide)) (hK := ?_)
    rintro r w1 A' (⟨hc, _⟩ | ⟨_, hc, _⟩ | ⟨_, hc, rfl, f, hf, hfs, rfl⟩) _ H
    · rw [nT_ok] at hc; cases hc
    · rw [hpl] at hc; omega
    have hta : total (aput l nT f) = total l + (pbs [⟨na, now.length, nc, now⟩]).length := total_append hf
    rw [hpb] at hta
    rw [hpl, show (total l : Int) + (now.length : Int) = (total (aput l nT f) : Int) by omega] at H
    rw [hbt, hpb, List.nil_append] at hf
    have hsyn0 : synOf l nT = 0 := by rw [synOf_look, hs.t]; rfl
    repeat (first | refine nn ?_ | refine wI H (hK := ?_) | refine wP H (hK := ?_) | refine wM H (hK := ?_) | refine wSl H (hK := ?_) | refine wB H (hK := ?_) | refine wS H (hK := ?_) | refine wEq ?_ | refine wC H (hK := ?_) | (refine wLW H ?_; intro w1 H) | (refine wST H (hK := ?_); intro w1 H _) | refine mSlice_mk ?_ | refine mInt_mk ?_ | refine mBool_mk ?_ | refine mTup_mk ?_ | refine mCons_mk ?_ | refine mNil_mk ?_ | refine mAgg_mk ?_ | refine mPtr_mk ?_ | refine mStr_mk ?_)
    refine renames_2 ho hn ⟨?_, ?_, ?_, ?_, ?_⟩ hat (H.left (L := [_]))
    · rw [look_aput_ne _ _ (Ne.symm nTF), hs.f]
    · rw [if_pos h', look_aput, hf, hfs, hsyn0]
    · intro s h1 h2; rw [look_aput_ne _ _ h2, hs.o s h1 h2]
    · omega
    · have := congrArg List.length (keys_aput_new f hs.t)
      simp [keysOf] at this
      omega
  · have h' : ¬ at_ ≥ 1 := by simpa using h
    exact renames_2 ho hn (by rw [if_neg h']; exact hs) hat H

theorem DiskRenames_spec {on nn' : Nat} (ho : Reads w 1 (.slice oa on oc) (bvals old)) (hn : Reads w 1 (.slice na nn' nc) (bvals now)) :
    CallS Try.prog fn_glacierlaw2_DiskRenames #[.slice oa on oc, .slice na nn' nc, .int .i64 at_, .int .i64 pick] w [] fun r _ A => r = .bool true ∧ A = [] := by
  have e1 : on = old.length := by have := ho.len; simpa using this
  have e2 : nn' = now.length := by have := hn.len; simpa using this
  subst e1 e2
  refine CallS_intro (.nil w) fun H => glacierlaw2_DiskRenames_sound _ _ _ _ _ _ _ _ _ _ ?_
  refine wCall H (fun _ => known_spec w) (hK := ?_)
  rintro r w1 A' ⟨rfl, rfl⟩ _ H
  repeat (first | refine nn ?_ | refine wI H (hK := ?_) | refine wP H (hK := ?_) | refine wM H (hK := ?_) | refine wSl H (hK := ?_) | refine wB H (hK := ?_) | refine wS H (hK := ?_) | refine wEq ?_ | refine wC H (hK := ?_) | (refine wLW H ?_; intro w1 H) | (refine wST H (hK := ?_); intro w1 H _) | refine mSlice_mk ?_ | refine mInt_mk ?_ | refine mBool_mk ?_ | refine mTup_mk ?_ | refine mCons_mk ?_ | refine mNil_mk ?_ | refine mAgg_mk ?_ | refine mPtr_mk ?_ | refine mStr_mk ?_)
  refine br (fun h => by simp at h) (fun _ => ?_)
  refine br (fun _ => ⟨_, ⟨rfl, rfl⟩, Sh.St.left (L := []) H⟩) (fun h1 => ?_)
  refine br (fun _ => ⟨_, ⟨rfl, rfl⟩, Sh.St.left (L := []) H⟩) (fun h2 => ?_)
  have hol : old.length ≤ 10000 := by simp at h1; omega
  have hnl : now.length ≤ 10000 := by simp at h2; omega
  refine wCall H (fun _ => New_spec 1048576 w1) (hK := ?_)
  rintro r w1 A' ⟨hr, _⟩ _ H
  obtain ⟨db, bm, rfl, rfl⟩ := hr (by decide)
  repeat (first | refine nn ?_ | refine wI H (hK := ?_) | refine wP H (hK := ?_) | refine wM H (hK := ?_) | refine wSl H (hK := ?_) | refine wB H (hK := ?_) | refine wS H (hK := ?_) | refine wEq ?_ | refine wC H (hK := ?_) | (refine wLW H ?_; intro w1 H) | (refine wST H (hK := ?_); intro w1 H _) | refine mSlice_mk ?_ | refine mInt_mk ?_ | refine mBool_mk ?_ | refine mTup_mk ?_ | refine mCons_mk ?_ | refine mNil_mk ?_ | refine mAgg_mk ?_ | refine mPtr_mk ?_ | refine mStr_mk ?_)
  refine br (fun h => by simp at h) (fun _ => ?_)
  refine br (fun h => by simp at h) (fun _ => ?_)
  refine wAL H fun b w1 H => ?_
  have H := H.front (diskO db bm 1048576 0 0 [])
  have hpl : plen [⟨oa, old.length, oc, old⟩] = old.length := by simp [plen]
  have hpb : pbs [⟨oa, old.length, oc, old⟩] = old := by simp [pbs]
  refine wCall H (fun hA => Append_spec (ps := [⟨oa, old.length, oc, old⟩]) hA (ext_part (A := [_]) H (List.mem_singleton.2 rfl) rfl (St.extC (w := w) (A := [_]) H (by decide) ho) rfl) (by rw [hpl]; omega) (by simp) (by decide) (by decide)) (hK := ?_)
  rintro r w1 A' (⟨hc, _⟩ | ⟨_, hc, _⟩ | ⟨_, hc, rfl, f, hf, hfs, rfl⟩) _ H
  · rw [nF_ok] at hc; cases hc
  · rw [hpl] at hc; omega
  have hta : total (aput ([] : Files) nF f) = total [] + (pbs [⟨oa, old.length, oc, old⟩]).length := total_append hf
  rw [hpb] at hta
  have hl1 : look (aput ([] : Files) nF f) nF = some (old, 0) := by rw [look_aput, hf, hfs, hpb]; rfl
  have ho1 : ∀ s, s ≠ nF → look (aput ([] : Files) nF f) s = none := fun s hs => by rw [look_aput_ne _ _ hs]; rfl
  have hlen1 : (aput ([] : Files) nF f).length = 1 := rfl
  have ht1 : total (aput ([] : Files) nF f) = old.length := by rw [hta]; simp [total]
  rw [hpl, show (0 : Int) + (old.length : Int) = (total (aput ([] : Files) nF f) : Int) by omega] at H
  generalize aput ([] : Files) nF f = l1 at H hl1 ho1 hlen1 ht1
  repeat (first | refine nn ?_ | refine wI H (hK := ?_) | refine wP H (hK := ?_) | refine wM H (hK := ?_) | refine wSl H (hK := ?_) | refine wB H (hK := ?_) | refine wS H (hK := ?_) | refine wEq ?_ | refine wC H (hK := ?_) | (refine wLW H ?_; intro w1 H) | (refine wST H (hK := ?_); intro w1 H _) | refine mSlice_mk ?_ | refine mInt_mk ?_ | refine mBool_mk ?_ | refine mTup_mk ?_ | refine mCons_mk ?_ | refine mNil_mk ?_ | refine mAgg_mk ?_ | refine mPtr_mk ?_ | refine mStr_mk ?_)
  refine wAL H fun b2 w1 H => ?_
  have H := H.front (diskO db bm 1048576 (total l1) 0 l1)
  refine wCall H (fun hA => Sync_spec (ns := [nF]) hA (ext_pt (A := [_]) H (by simp; exact .inl rfl) rfl (Nat.le_refl _) rfl) (by simp)) (hK := ?_)
  rintro r w1 A' (⟨hc, _⟩ | ⟨_, rfl, rfl⟩) _ H
  · obtain ⟨g, hg, _⟩ := look_some hl1
    simp [allIn, hg] at hc
  have e3 : List.foldl syncOne l1 [nF] = syncOne l1 nF := rfl
  rw [e3, ← total_sync l1 nF] at H
  have hs : RS (syncOne l1 nF) old none := by
    refine ⟨?_, ?_, ?_, ?_, ?_⟩
    · rw [look_sync, if_pos rfl, hl1]; rfl
    · rw [look_sync, if_neg nTF, ho1 _ nTF]
    · intro s g1 _; rw [look_sync, if_neg g1, ho1 s g1]
    · rw [total_sync]; omega
    · have := congrArg List.length (keys_sync l1 nF)
      simp [keysOf] at this
      omega
  have hlen2 : (syncOne l1 nF).length ≤ 1 := by
    have := congrArg List.length (keys_sync l1 nF)
    simp [keysOf] at this
    omega
  have ht2 : total (syncOne l1 nF) ≤ 10000 := by rw [total_sync]; omega
  generalize syncOne l1 nF = l2 at H hs hlen2 ht2
  repeat (first | refine nn ?_ | refine wI H (hK := ?_) | refine wP H (hK := ?_) | refine wM H (hK := ?_) | refine wSl H (hK := ?_) | refine wB H (hK := ?_) | refine wS H (hK := ?_) | refine wEq ?_ | refine wC H (hK := ?_) | (refine wLW H ?_; intro w1 H) | (refine wST H (hK := ?_); intro w1 H _) | refine mSlice_mk ?_ | refine mInt_mk ?_ | refine mBool_mk ?_ | refine mTup_mk ?_ | refine mCons_mk ?_ | refine mNil_mk ?_ | refine mAgg_mk ?_ | refine mPtr_mk ?_ | refine mStr_mk ?_)
  refine wReq (by decide) ?_
  have hm1 := Int.tmod_lt_of_pos at_ (show (0 : Int) < 4 by decide)
  have hm2 := Int.lt_tmod_of_pos at_ (show (0 : Int) < 4 by decide)
  have H := H.left (L := [_])
  refine br (fun hneg => ?_) (fun hneg => ?_)
  · have hw2 : IntKind.wrap .i64 (0 - Int.tmod at_ 4) = 0 - Int.tmod at_ 4 := wrap_id (by omega) (by omega)
    rw [hw2]
    exact renames_3 ho hn hs ht2 hlen2 hnl (by omega) H
  · exact renames_3 ho hn hs ht2 hlen2 hnl (by omega) H
end
end Go.Proofs.Ytimgbkabfkdabaa
