/- A disk in memory: its variables, its map, one variable and its bytes for each file; New, Used, Born, Read, Unsynced, Lose. -/
import Derived.Test.YtimgbkabfkdabaaShDisk
import Derived.Test.YtimgbkabfkdabaaShWalk
namespace Go.Proofs.Ytimgbkabfkdabaa
open Go.Sh
attribute [local irreducible] rRun LDI LDB LDS LDP LDSl LDM LD Go.Sh.ST AL ALM LetW CallR CallV CallI NN IX SIX Br Req mInt mBool mStr mPtr mSlice mMap mAgg mTup mCons mNil mNth mPA LoopS

theorem elem_bytes : ElemTy Try.prog 30 5 1 1 := elemTy_of (by kernel_rfl) (by kernel_rfl)
def strV (s : ByteArray) : Value := .string s
theorem map_str : MapTy Try.prog 65 strV := mapTy_of Try.underlying65 (keyTy_string (by kernel_rfl)) (by kernel_rfl)
theorem zero_str : zeroOf Try.prog 65 = .pointer none := by kernel_rfl

theorem Clone_spec {w : World} {v : Option Addr} {n c : Nat} {bs : List UInt8} (hv : Reads w 1 (.slice v n c) (bvals bs)) (hn : bs.length ≤ 70000000000) :
    CallS Try.prog fn_slices_Clone_s_byte_byte #[.slice v n c] w [] fun r _ A => A = [sliceO 5 1 r (bvals bs)] ∧ ∃ a m c', r = .slice a m c' := by
  refine CallS_intro (.nil w) fun H => slices_Clone_s_byte_byte_sound _ _ _ _ _ ?_
  refine br (fun h => ?_) (fun h => ?_)
  · have hb : bs = [] := by
      obtain ⟨a, len, cap, he, h1, h2, h3⟩ := hv
      cases he
      rcases h3 with rfl | ⟨ad, rfl, _⟩
      · simp at h1; exact List.eq_nil_of_length_eq_zero h1.symm
      · cases h
    subst hb
    exact ⟨_, ⟨rfl, _, _, _, rfl⟩, H.nothing 5 1 none⟩
  · refine wAL H fun b w1 H => ?_
    have hv1 : Reads w1 1 (.slice v n c) (bvals bs) := hv.of fun b hb => H.fr.block b (hv.lt (by decide) b hb) (by simp)
    obtain ⟨m, hm, hs⟩ := hv1.src (P := Try.prog) (tx := 30) elem_bytes.under (bvals_one bs)
    have H := (H.tail).nothing 5 1 (some ⟨b, 0, none⟩)
    refine append_own (t := 30) (n := m) elem_bytes (i := 0) H rfl hs (by simp; omega) (by decide) fun v' w' H hf hp => ?_
    obtain ⟨a, len, cap, rfl, _⟩ := (H.get (i := 0) rfl : SliceAt _ _ _ _ _)
    exact mSlice_mk ⟨_, ⟨by simp, _, _, _, rfl⟩, H⟩

/-- A file: where its variable is, its slice's head, its bytes, how many are synced. -/
structure FileR where
  (fb : Nat) (a : Option Addr) (n c : Nat) (bs : List UInt8) (syn : Nat)
abbrev Files := List (ByteArray × FileR)
def fileO (f : FileR) : Own := starO [pt f.fb (.cells #[.slice f.a f.n f.c, .int .i64 f.syn] 71), sliceO 5 1 (.slice f.a f.n f.c) (bvals f.bs)]
def filesO (l : Files) : Own := starO (l.map fun e => fileO e.2)
def filesM (bm : Nat) (l : Files) : Own := mapO strV bm (l.map fun e => (e.1, .pointer (some ⟨e.2.fb, 0, none⟩)))
def diskO (db bm : Nat) (size used born : Int) (l : Files) : Own := starO [pt db (.cells #[.int .i64 size, .int .i64 used, .int .i64 born, .map (some bm)] 67), filesM bm l, filesO l]

section
variable {w0 w : World} {F : List Nat} {L R : List Own}
theorem _root_.Go.Sh.St.diskOpen {db bm : Nat} {size used born : Int} {l : Files} (H : St w0 F w (diskO db bm size used born l :: R)) :
    St w0 F w (pt db (.cells #[.int .i64 size, .int .i64 used, .int .i64 born, .map (some bm)] 67) :: filesM bm l :: filesO l :: R) := H.open
theorem _root_.Go.Sh.St.diskClose {db bm : Nat} {size used born : Int} {l : Files} (H : St w0 F w (pt db (.cells #[.int .i64 size, .int .i64 used, .int .i64 born, .map (some bm)] 67) :: filesM bm l :: filesO l :: R)) :
    St w0 F w (diskO db bm size used born l :: R) := Sh.St.close (M := [_, _, _]) H
theorem wLookupF {bm : Nat} {l : Files} {s : ByteArray} {K : Value → World → Prop} (H : St w0 F w L)
    (hm : List.Mem (filesM bm l) L := by repeat (first | exact .head _ | apply List.Mem.tail))
    (hK : K (.pointer ((aget l s).map fun f => ⟨f.fb, 0, none⟩)) w) :
    rRun Try.prog (Instr.lookup 65 (.map (some bm)) (.string s) false) w K := by
  refine rRun_intro (lookup_run map_str (H.has.all _ hm : MapAt strV w bm _) s false) ?_
  rw [aget_map (fun f : FileR => (.pointer (some ⟨f.fb, 0, none⟩) : Value)), zero_str]
  simp only [Bool.false_eq_true, if_false]
  cases hg : aget l s <;> (rw [hg] at hK; exact hK)
/-- A file taken out of the files; and put in again. -/
theorem file_out {l : Files} {s : ByteArray} {f : FileR} (H : St w0 F w (filesO l :: R)) (hg : aget l s = some f) :
    St w0 F w (pt f.fb (.cells #[.slice f.a f.n f.c, .int .i64 f.syn] 71) :: sliceO 5 1 (.slice f.a f.n f.c) (bvals f.bs) :: filesO (adel l s) :: R) :=
  (H.out (perm_aget (fun e : ByteArray × FileR => fileO e.2) hg)).open
theorem file_in {l : Files} {s : ByteArray} {f : FileR} (H : St w0 F w (pt f.fb (.cells #[.slice f.a f.n f.c, .int .i64 f.syn] 71) :: sliceO 5 1 (.slice f.a f.n f.c) (bvals f.bs) :: filesO (adel l s) :: R)) :
    St w0 F w (filesO (aput l s f) :: R) := by
  have h1 : St w0 F w (fileO f :: filesO (adel l s) :: R) := Sh.St.close (M := [_, _]) H
  exact h1.into (perm_aput (fun e : ByteArray × FileR => fileO e.2) l s f)
theorem file_back {l : Files} {s : ByteArray} {f : FileR} (hg : aget l s = some f) (H : St w0 F w (pt f.fb (.cells #[.slice f.a f.n f.c, .int .i64 f.syn] 71) :: sliceO 5 1 (.slice f.a f.n f.c) (bvals f.bs) :: filesO (adel l s) :: R)) :
    St w0 F w (filesO l :: R) := by
  have h1 : St w0 F w (fileO f :: filesO (adel l s) :: R) := Sh.St.close (M := [_, _]) H
  exact h1.into (perm_aget (fun e : ByteArray × FileR => fileO e.2) hg)

theorem New_spec (size : Int) (w : World) : CallS Try.prog fn_disk_New #[.int .i64 size] w [] fun v _ A =>
    ((1 ≤ size ∧ size ≤ 1073741824) → ∃ db bm, v = .tuple #[.pointer (some ⟨db, 0, none⟩), .int .i64 0] ∧ A = [diskO db bm size 0 0 []]) ∧
    (¬ (1 ≤ size ∧ size ≤ 1073741824) → v = .tuple #[.pointer none, .int .i64 1] ∧ A = []) := by
  refine CallS_intro (.nil w) fun H => disk_New_sound _ _ _ ?_
  refine br (fun h => ⟨[], ⟨fun h2 => by simp at h; omega, fun _ => ⟨rfl, rfl⟩⟩, H⟩) (fun h1 => ?_)
  refine br (fun h => ⟨[], ⟨fun h2 => by simp at h; omega, fun _ => ⟨rfl, rfl⟩⟩, H⟩) (fun h2 => ?_)
  simp at h1 h2
  refine wALM H fun bm w1 H => ?_
  refine wAL H fun db w2 H => ?_
  have H := (H.front (pt bm (.map #[] 0))).newMap strV
  have H := H.front (pt db (.cells #[.int .i64 size, .int .i64 0, .int .i64 0, .map (some bm)] 67))
  have H : St w (fps []) w2 ([pt db (.cells #[.int .i64 size, .int .i64 0, .int .i64 0, .map (some bm)] 67), filesM bm []] ++ []) := H
  have H2 := Sh.St.close (M := []) (H.perm List.perm_append_comm)
  have H := (H2.front (filesM bm [])).front (pt db (.cells #[.int .i64 size, .int .i64 0, .int .i64 0, .map (some bm)] 67))
  exact ⟨_, ⟨fun _ => ⟨db, bm, rfl, rfl⟩, fun h => absurd ⟨h1, h2⟩ h⟩, St.diskClose (l := []) H⟩

theorem Used_spec {db bm : Nat} {size used born : Int} {l : Files} (hA : Has w [diskO db bm size used born l]) :
    CallS Try.prog fn_disk_Disk_Used #[.pointer (some ⟨db, 0, none⟩)] w [diskO db bm size used born l] fun r _ A => r = .int .i64 used ∧ A = [diskO db bm size used born l] := by
  refine CallS_intro hA fun H => disk_Disk_Used_sound _ _ _ ?_
  have H := H.diskOpen
  repeat (first | refine nn ?_ | refine wI H (hK := ?_) | refine wP H (hK := ?_) | refine wM H (hK := ?_) | refine wSl H (hK := ?_) | refine wB H (hK := ?_) | refine wS H (hK := ?_) | refine wEq ?_ | refine wC H (hK := ?_) | (refine wLW H ?_; intro w1 H) | (refine wST H (hK := ?_); intro w1 H _) | refine mSlice_mk ?_ | refine mInt_mk ?_ | refine mBool_mk ?_ | refine mTup_mk ?_ | refine mCons_mk ?_ | refine mNil_mk ?_ | refine mAgg_mk ?_ | refine mPtr_mk ?_ | refine mStr_mk ?_)
  exact ⟨_, ⟨rfl, rfl⟩, H.diskClose⟩
theorem Born_spec {db bm : Nat} {size used born : Int} {l : Files} (hA : Has w [diskO db bm size used born l]) :
    CallS Try.prog fn_disk_Disk_Born #[.pointer (some ⟨db, 0, none⟩)] w [diskO db bm size used born l] fun r _ A => r = .int .i64 born ∧ A = [diskO db bm size used born l] := by
  refine CallS_intro hA fun H => disk_Disk_Born_sound _ _ _ ?_
  have H := H.diskOpen
  repeat (first | refine nn ?_ | refine wI H (hK := ?_) | refine wP H (hK := ?_) | refine wM H (hK := ?_) | refine wSl H (hK := ?_) | refine wB H (hK := ?_) | refine wS H (hK := ?_) | refine wEq ?_ | refine wC H (hK := ?_) | (refine wLW H ?_; intro w1 H) | (refine wST H (hK := ?_); intro w1 H _) | refine mSlice_mk ?_ | refine mInt_mk ?_ | refine mBool_mk ?_ | refine mTup_mk ?_ | refine mCons_mk ?_ | refine mNil_mk ?_ | refine mAgg_mk ?_ | refine mPtr_mk ?_ | refine mStr_mk ?_)
  exact ⟨_, ⟨rfl, rfl⟩, H.diskClose⟩

theorem Read_spec {db bm : Nat} {size used born : Int} {l : Files} {s : ByteArray} (hA : Has w [diskO db bm size used born l]) (hn : ∀ f, aget l s = some f → f.bs.length ≤ 70000000000) :
    CallS Try.prog fn_disk_Disk_Read #[.pointer (some ⟨db, 0, none⟩), .string s] w [diskO db bm size used born l] fun r _ A =>
      (aget l s = none ∧ r = .tuple #[.slice none 0 0, .int .i64 4] ∧ A = [diskO db bm size used born l]) ∨
      (∃ f a n c, aget l s = some f ∧ r = .tuple #[.slice a n c, .int .i64 0] ∧ A = [sliceO 5 1 (.slice a n c) (bvals f.bs), diskO db bm size used born l]) := by
  refine CallS_intro hA fun H => disk_Disk_Read_sound _ _ _ _ ?_
  have H := H.diskOpen
  repeat (first | refine nn ?_ | refine wI H (hK := ?_) | refine wP H (hK := ?_) | refine wM H (hK := ?_) | refine wSl H (hK := ?_) | refine wB H (hK := ?_) | refine wS H (hK := ?_) | refine wEq ?_ | refine wC H (hK := ?_) | (refine wLW H ?_; intro w1 H) | (refine wST H (hK := ?_); intro w1 H _) | refine mSlice_mk ?_ | refine mInt_mk ?_ | refine mBool_mk ?_ | refine mTup_mk ?_ | refine mCons_mk ?_ | refine mNil_mk ?_ | refine mAgg_mk ?_ | refine mPtr_mk ?_ | refine mStr_mk ?_)
  refine wLookupF H (hK := ?_)
  cases hg : aget l s with
  | none =>
    refine mPtr_mk (br (fun _ => ?_) (fun h => by cases h))
    exact ⟨_, .inl ⟨rfl, rfl, rfl⟩, H.diskClose⟩
  | some f =>
    refine mPtr_mk (br (fun h => by cases h) (fun _ => nn ?_))
    have H := file_out (H.front (filesO l)) hg
    repeat (first | refine nn ?_ | refine wI H (hK := ?_) | refine wP H (hK := ?_) | refine wM H (hK := ?_) | refine wSl H (hK := ?_) | refine wB H (hK := ?_) | refine wS H (hK := ?_) | refine wEq ?_ | refine wC H (hK := ?_) | (refine wLW H ?_; intro w1 H) | (refine wST H (hK := ?_); intro w1 H _) | refine mSlice_mk ?_ | refine mInt_mk ?_ | refine mBool_mk ?_ | refine mTup_mk ?_ | refine mCons_mk ?_ | refine mNil_mk ?_ | refine mAgg_mk ?_ | refine mPtr_mk ?_ | refine mStr_mk ?_)
    have hr := (H.has.all (sliceO 5 1 (.slice f.a f.n f.c) (bvals f.bs)) (by simp) : SliceAt _ 5 1 (.slice f.a f.n f.c) (bvals f.bs)).reads
    refine wCall H (fun _ => Clone_spec hr (hn f hg)) (hK := ?_)
    rintro r w1 A' ⟨rfl, a, n, c, rfl⟩ _ H
    repeat (first | refine nn ?_ | refine wI H (hK := ?_) | refine wP H (hK := ?_) | refine wM H (hK := ?_) | refine wSl H (hK := ?_) | refine wB H (hK := ?_) | refine wS H (hK := ?_) | refine wEq ?_ | refine wC H (hK := ?_) | (refine wLW H ?_; intro w1 H) | (refine wST H (hK := ?_); intro w1 H _) | refine mSlice_mk ?_ | refine mInt_mk ?_ | refine mBool_mk ?_ | refine mTup_mk ?_ | refine mCons_mk ?_ | refine mNil_mk ?_ | refine mAgg_mk ?_ | refine mPtr_mk ?_ | refine mStr_mk ?_)
    have H := file_back hg (((H.front (filesO (adel l s))).front (sliceO 5 1 (.slice f.a f.n f.c) (bvals f.bs))).front (pt f.fb (.cells #[.slice f.a f.n f.c, .int .i64 f.syn] 71)))
    have H := ((H.front (filesM bm l)).front (pt db (.cells #[.int .i64 size, .int .i64 used, .int .i64 born, .map (some bm)] 67))).diskClose
    exact ⟨_, .inr ⟨f, a, n, c, rfl, rfl, rfl⟩, H.front (sliceO 5 1 (.slice a n c) (bvals f.bs))⟩
end
end Go.Proofs.Ytimgbkabfkdabaa
