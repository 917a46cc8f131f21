/- KA KB KC KD KE KG KI, laid together. -/
import Derived.Test.YtnhjcjnjpciifaaDoorShDisk
import Derived.Test.YtnhjcjnjpciifaaDoorShWalk
/- A disk in memory: its variables, its map, one variable and its bytes for each file; New, Used, Born, Read, Unsynced, Lose. -/
namespace Go.Proofs.YtnhjcjnjpciifaaDoor
open Go.Sh
attribute [local irreducible] rRun LDI LDB LDS LDP LDSl LDM LD Go.Sh.ST AL ALM LetW CallR CallV CallI NN IX SIX Br Req mInt mBool mStr mPtr mSlice mMap mAgg mTup mCons mNil mNth mPA LoopS

theorem elem_bytes : ElemTy Tryd.prog 41 5 1 1 := elemTy_of (by kernel_rfl) (by kernel_rfl)
def strV (s : ByteArray) : Value := .string s
theorem map_str : MapTy Tryd.prog 73 strV := mapTy_of Tryd.underlying73 (keyTy_string (by kernel_rfl)) (by kernel_rfl)
theorem zero_str : zeroOf Tryd.prog 73 = .pointer none := by kernel_rfl

theorem Clone_spec {w : World} {v : Option Addr} {n c : Nat} {bs : List UInt8} (hv : Reads w 1 (.slice v n c) (bvals bs)) (hn : bs.length ≤ 70000000000) :
    CallS Tryd.prog fn_slices_Clone_s_byte_byte #[.slice v n c] w [] fun r _ A => A = [sliceO 5 1 r (bvals bs)] ∧ ∃ a m c', r = .slice a m c' := by
  refine CallS_intro (.nil w) fun H => slices_Clone_s_byte_byte_sound _ _ _ _ _ ?_
  refine br (fun h => ?_) (fun h => ?_)
  · have hb : bs = [] := by
      obtain ⟨a, len, cap, he, h1, h2, h3⟩ := hv
      cases he
      rcases h3 with rfl | ⟨ad, rfl, _⟩
      · simp at h1; exact List.eq_nil_of_length_eq_zero h1.symm
      · cases h
    subst hb
    exact ⟨_, ⟨rfl, _, _, _, rfl⟩, H.nothing 5 1 none⟩
  · refine wAL H fun b w1 H => ?_
    have hv1 : Reads w1 1 (.slice v n c) (bvals bs) := hv.of fun b hb => H.fr.block b (hv.lt (by decide) b hb) (by simp)
    obtain ⟨m, hm, hs⟩ := hv1.src (P := Tryd.prog) (tx := 41) elem_bytes.under (bvals_one bs)
    have H := (H.tail).nothing 5 1 (some ⟨b, 0, none⟩)
    refine append_own (t := 41) (n := m) elem_bytes (i := 0) H rfl hs (by simp; omega) (by decide) fun v' w' H hf hp => ?_
    obtain ⟨a, len, cap, rfl, _⟩ := (H.get (i := 0) rfl : SliceAt _ _ _ _ _)
    exact mSlice_mk ⟨_, ⟨by simp, _, _, _, rfl⟩, H⟩

/-- A file: where its variable is, its slice's head, its bytes, how many are synced. -/
structure FileR where
  (fb : Nat) (a : Option Addr) (n c : Nat) (bs : List UInt8) (syn : Nat)
abbrev Files := List (ByteArray × FileR)
def fileO (f : FileR) : Own := starO [pt f.fb (.cells #[.slice f.a f.n f.c, .int .i64 f.syn] 90), sliceO 5 1 (.slice f.a f.n f.c) (bvals f.bs)]
def filesO (l : Files) : Own := starO (l.map fun e => fileO e.2)
def filesM (bm : Nat) (l : Files) : Own := mapO strV bm (l.map fun e => (e.1, .pointer (some ⟨e.2.fb, 0, none⟩)))
def diskO (db bm : Nat) (size used born : Int) (l : Files) : Own := starO [pt db (.cells #[.int .i64 size, .int .i64 used, .int .i64 born, .map (some bm)] 75), filesM bm l, filesO l]

section
variable {w0 w : World} {F : List Nat} {L R : List Own}
theorem _root_.Go.Sh.St.diskOpen {db bm : Nat} {size used born : Int} {l : Files} (H : St w0 F w (diskO db bm size used born l :: R)) :
    St w0 F w (pt db (.cells #[.int .i64 size, .int .i64 used, .int .i64 born, .map (some bm)] 75) :: filesM bm l :: filesO l :: R) := H.open
theorem _root_.Go.Sh.St.diskClose {db bm : Nat} {size used born : Int} {l : Files} (H : St w0 F w (pt db (.cells #[.int .i64 size, .int .i64 used, .int .i64 born, .map (some bm)] 75) :: filesM bm l :: filesO l :: R)) :
    St w0 F w (diskO db bm size used born l :: R) := Sh.St.close (M := [_, _, _]) H
theorem wLookupF {bm : Nat} {l : Files} {s : ByteArray} {K : Value → World → Prop} (H : St w0 F w L)
    (hm : List.Mem (filesM bm l) L := by repeat (first | exact .head _ | apply List.Mem.tail | assumption))
    (hK : K (.pointer ((aget l s).map fun f => ⟨f.fb, 0, none⟩)) w) :
    rRun Tryd.prog (Instr.lookup 73 (.map (some bm)) (.string s) false) w K := by
  refine rRun_intro (lookup_run map_str (H.has.all _ hm : MapAt strV w bm _) s false) ?_
  rw [aget_map (fun f : FileR => (.pointer (some ⟨f.fb, 0, none⟩) : Value)), zero_str]
  simp only [Bool.false_eq_true, if_false]
  cases hg : aget l s <;> (rw [hg] at hK; exact hK)
/-- A file taken out of the files; and put in again. -/
theorem file_out {l : Files} {s : ByteArray} {f : FileR} (H : St w0 F w (filesO l :: R)) (hg : aget l s = some f) :
    St w0 F w (pt f.fb (.cells #[.slice f.a f.n f.c, .int .i64 f.syn] 90) :: sliceO 5 1 (.slice f.a f.n f.c) (bvals f.bs) :: filesO (adel l s) :: R) :=
  (H.out (perm_aget (fun e : ByteArray × FileR => fileO e.2) hg)).open
theorem file_in {l : Files} {s : ByteArray} {f : FileR} (H : St w0 F w (pt f.fb (.cells #[.slice f.a f.n f.c, .int .i64 f.syn] 90) :: sliceO 5 1 (.slice f.a f.n f.c) (bvals f.bs) :: filesO (adel l s) :: R)) :
    St w0 F w (filesO (aput l s f) :: R) := by
  have h1 : St w0 F w (fileO f :: filesO (adel l s) :: R) := Sh.St.close (M := [_, _]) H
  exact h1.into (perm_aput (fun e : ByteArray × FileR => fileO e.2) l s f)
theorem file_back {l : Files} {s : ByteArray} {f : FileR} (hg : aget l s = some f) (H : St w0 F w (pt f.fb (.cells #[.slice f.a f.n f.c, .int .i64 f.syn] 90) :: sliceO 5 1 (.slice f.a f.n f.c) (bvals f.bs) :: filesO (adel l s) :: R)) :
    St w0 F w (filesO l :: R) := by
  have h1 : St w0 F w (fileO f :: filesO (adel l s) :: R) := Sh.St.close (M := [_, _]) H
  exact h1.into (perm_aget (fun e : ByteArray × FileR => fileO e.2) hg)

theorem New_spec (size : Int) (w : World) : CallS Tryd.prog fn_disk_New #[.int .i64 size] w [] fun v _ A =>
    ((1 ≤ size ∧ size ≤ 1073741824) → ∃ db bm, v = .tuple #[.pointer (some ⟨db, 0, none⟩), .int .i64 0] ∧ A = [diskO db bm size 0 0 []]) ∧
    (¬ (1 ≤ size ∧ size ≤ 1073741824) → v = .tuple #[.pointer none, .int .i64 1] ∧ A = []) := by
  refine CallS_intro (.nil w) fun H => disk_New_sound _ _ _ ?_
  refine br (fun h => ⟨[], ⟨fun h2 => by simp at h; omega, fun _ => ⟨rfl, rfl⟩⟩, H⟩) (fun h1 => ?_)
  refine br (fun h => ⟨[], ⟨fun h2 => by simp at h; omega, fun _ => ⟨rfl, rfl⟩⟩, H⟩) (fun h2 => ?_)
  simp at h1 h2
  refine wALM H fun bm w1 H => ?_
  refine wAL H fun db w2 H => ?_
  have H := (H.front (pt bm (.map #[] 0))).newMap strV
  have H := H.front (pt db (.cells #[.int .i64 size, .int .i64 0, .int .i64 0, .map (some bm)] 75))
  have H : St w (fps []) w2 ([pt db (.cells #[.int .i64 size, .int .i64 0, .int .i64 0, .map (some bm)] 75), filesM bm []] ++ []) := H
  have H2 := Sh.St.close (M := []) (H.perm List.perm_append_comm)
  have H := (H2.front (filesM bm [])).front (pt db (.cells #[.int .i64 size, .int .i64 0, .int .i64 0, .map (some bm)] 75))
  exact ⟨_, ⟨fun _ => ⟨db, bm, rfl, rfl⟩, fun h => absurd ⟨h1, h2⟩ h⟩, St.diskClose (l := []) H⟩

theorem Read_spec {db bm : Nat} {size used born : Int} {l : Files} {s : ByteArray} (hA : Has w [diskO db bm size used born l]) (hn : ∀ f, aget l s = some f → f.bs.length ≤ 70000000000) :
    CallS Tryd.prog fn_disk_Disk_Read #[.pointer (some ⟨db, 0, none⟩), .string s] w [diskO db bm size used born l] fun r _ A =>
      (aget l s = none ∧ r = .tuple #[.slice none 0 0, .int .i64 4] ∧ A = [diskO db bm size used born l]) ∨
      (∃ f a n c, aget l s = some f ∧ r = .tuple #[.slice a n c, .int .i64 0] ∧ A = [sliceO 5 1 (.slice a n c) (bvals f.bs), diskO db bm size used born l]) := by
  refine CallS_intro hA fun H => disk_Disk_Read_sound _ _ _ _ ?_
  have H := H.diskOpen
  repeat (first | refine nn ?_ | refine wI H (hK := ?_) | refine wP H (hK := ?_) | refine wM H (hK := ?_) | refine wSl H (hK := ?_) | refine wB H (hK := ?_) | refine wS H (hK := ?_) | refine wEq ?_ | refine wC H (hK := ?_) | (refine wLW H ?_; intro w1 H) | (refine wST H (hK := ?_); intro w1 H _) | refine mSlice_mk ?_ | refine mInt_mk ?_ | refine mBool_mk ?_ | refine mTup_mk ?_ | refine mCons_mk ?_ | refine mNil_mk ?_ | refine mAgg_mk ?_ | refine mPtr_mk ?_ | refine mStr_mk ?_)
  refine wLookupF H (hK := ?_)
  cases hg : aget l s with
  | none =>
    refine mPtr_mk (br (fun _ => ?_) (fun h => by cases h))
    exact ⟨_, .inl ⟨rfl, rfl, rfl⟩, H.diskClose⟩
  | some f =>
    refine mPtr_mk (br (fun h => by cases h) (fun _ => nn ?_))
    have H := file_out (H.front (filesO l)) hg
    repeat (first | refine nn ?_ | refine wI H (hK := ?_) | refine wP H (hK := ?_) | refine wM H (hK := ?_) | refine wSl H (hK := ?_) | refine wB H (hK := ?_) | refine wS H (hK := ?_) | refine wEq ?_ | refine wC H (hK := ?_) | (refine wLW H ?_; intro w1 H) | (refine wST H (hK := ?_); intro w1 H _) | refine mSlice_mk ?_ | refine mInt_mk ?_ | refine mBool_mk ?_ | refine mTup_mk ?_ | refine mCons_mk ?_ | refine mNil_mk ?_ | refine mAgg_mk ?_ | refine mPtr_mk ?_ | refine mStr_mk ?_)
    have hr := (H.has.all (sliceO 5 1 (.slice f.a f.n f.c) (bvals f.bs)) (by simp) : SliceAt _ 5 1 (.slice f.a f.n f.c) (bvals f.bs)).reads
    refine wCall H (fun _ => Clone_spec hr (hn f hg)) (hK := ?_)
    rintro r w1 A' ⟨rfl, a, n, c, rfl⟩ _ H
    repeat (first | refine nn ?_ | refine wI H (hK := ?_) | refine wP H (hK := ?_) | refine wM H (hK := ?_) | refine wSl H (hK := ?_) | refine wB H (hK := ?_) | refine wS H (hK := ?_) | refine wEq ?_ | refine wC H (hK := ?_) | (refine wLW H ?_; intro w1 H) | (refine wST H (hK := ?_); intro w1 H _) | refine mSlice_mk ?_ | refine mInt_mk ?_ | refine mBool_mk ?_ | refine mTup_mk ?_ | refine mCons_mk ?_ | refine mNil_mk ?_ | refine mAgg_mk ?_ | refine mPtr_mk ?_ | refine mStr_mk ?_)
    have H := file_back hg (((H.front (filesO (adel l s))).front (sliceO 5 1 (.slice f.a f.n f.c) (bvals f.bs))).front (pt f.fb (.cells #[.slice f.a f.n f.c, .int .i64 f.syn] 90)))
    have H := ((H.front (filesM bm l)).front (pt db (.cells #[.int .i64 size, .int .i64 used, .int .i64 born, .map (some bm)] 75))).diskClose
    exact ⟨_, .inr ⟨f, a, n, c, rfl, rfl, rfl⟩, H.front (sliceO 5 1 (.slice a n c) (bvals f.bs))⟩
end
end Go.Proofs.YtnhjcjnjpciifaaDoor

/- Name. -/
namespace Go.Proofs.YtnhjcjnjpciifaaDoor
open Go.Sh

theorem bytes_get {s : ByteArray} {i : Nat} {c : UInt8} (h : s.data.toList[i]? = some c) : s[i]? = some c := by
  obtain ⟨hi, he⟩ := List.getElem?_eq_some_iff.1 h
  have hs : i < s.size := by rw [Array.length_toList] at hi; exact hi
  rw [getElem?_pos s i hs]
  congr 1
theorem wSIX {s : ByteArray} {i : Nat} {v : Int} {c : UInt8} {K : UInt8 → Prop} (hc : s.data.toList[i]? = some c) (hv : v = (i : Int)) (hK : K c) : SIX s v K := by
  subst hv
  exact ⟨c, by omega, bytes_get (by simpa using hc), hK⟩
attribute [local irreducible] rRun LDI LDB LDS LDP LDSl LDM LD Go.Sh.ST AL ALM LetW CallR CallV CallI NN IX SIX Br Req mInt mBool mStr mPtr mSlice mMap mAgg mTup mCons mNil mNth mPA LoopS
def okc (c : UInt8) : Bool := (decide (97 ≤ c.toNat) && decide (c.toNat ≤ 122)) || (decide (48 ≤ c.toNat) && decide (c.toNat ≤ 57)) || c.toNat == 45 || c.toNat == 46
def nameOk (s : ByteArray) : Bool := decide (1 ≤ s.size) && decide (s.size ≤ 64) && s.data.toList.all okc
theorem Name_spec (s : ByteArray) (w : World) : CallS Tryd.prog fn_disk_Name #[.string s] w [] fun r _ A => r = .bool (nameOk s) ∧ A = [] := by
  refine CallS_intro (.nil w) fun H => disk_Name_sound _ _ _ ?_
  refine br (fun h => ⟨_, ⟨?_, rfl⟩, H⟩) (fun h1 => br (fun h => ⟨_, ⟨?_, rfl⟩, H⟩) (fun h2 => ?_))
  · have h1 : s.size < 1 := by simp at h; omega
    simp [nameOk, show ¬ 1 ≤ s.size by omega]
  · have h1 : ¬ s.size ≤ 64 := by simp at h; omega
    simp [nameOk, h1]
  have hl1 : 1 ≤ s.size := by simp at h1; omega
  have hl2 : s.size ≤ 64 := by simp at h2; omega
  refine wLoop (fun k x w' => ∃ i : Nat, k + i = s.size ∧ x = (s, (s.size : Int), (i : Int)) ∧ (∀ j c, j < i → s.data.toList[j]? = some c → okc c = true) ∧ St w (fps []) w' []) ?_ ?_
  · exact ⟨s.size, 0, by omega, rfl, fun j c hj _ => by omega, H⟩
  rintro k x w1 ⟨i, hk, rfl, hall, H⟩
  have hlen : s.data.toList.length = s.size := Array.length_toList
  refine br (fun h => ?_) (fun h => ?_)
  · have hi : i < s.size := by simp at h; omega
    obtain ⟨c, hc⟩ : ∃ c, s.data.toList[i]? = some c := ⟨_, List.getElem?_eq_getElem (by omega)⟩
    refine wSIX hc rfl ?_
    have hw : IntKind.wrap .i64 ((i : Int) + 1) = ((i + 1 : Nat) : Int) := by rw [wrap_id (by omega) (by omega)]; rfl
    have good : okc c = true → ∃ k', k' < k ∧ ∃ i' : Nat, k' + i' = s.size ∧ (s, (s.size : Int), IntKind.wrap .i64 ((i : Int) + 1)) = (s, (s.size : Int), (i' : Int)) ∧ (∀ j c, j < i' → s.data.toList[j]? = some c → okc c = true) ∧ St w (fps []) w1 [] := by
      intro hok
      refine ⟨k - 1, by omega, i + 1, by omega, by rw [hw], fun j d hj hd => ?_, H⟩
      by_cases hji : j = i
      · subst hji; rw [hc] at hd; cases hd; exact hok
      · exact hall j d (by omega) hd
    have bad : okc c = false → ∃ A', ((.bool false : Value) = .bool (nameOk s) ∧ A' = []) ∧ St w (fps []) w1 A' := by
      intro hno
      refine ⟨[], ⟨?_, rfl⟩, H⟩
      have : s.data.toList.all okc = false := List.all_eq_false.2 ⟨c, List.mem_of_getElem? hc, by rw [hno]; decide⟩
      simp [nameOk, this]
    have e : okc c = (decide ((c.toNat : Int) ≥ 97) && decide ((c.toNat : Int) ≤ 122) || decide ((c.toNat : Int) ≥ 48) && decide ((c.toNat : Int) ≤ 57) || (c.toNat : Int) == 45 || (c.toNat : Int) == 46) := by
      unfold okc
      have a1 : decide (97 ≤ c.toNat) = decide ((c.toNat : Int) ≥ 97) := by simp; omega
      have a2 : decide (c.toNat ≤ 122) = decide ((c.toNat : Int) ≤ 122) := by simp; omega
      have a3 : decide (48 ≤ c.toNat) = decide ((c.toNat : Int) ≥ 48) := by simp; omega
      have a4 : decide (c.toNat ≤ 57) = decide ((c.toNat : Int) ≤ 57) := by simp; omega
      have a5 : (c.toNat == 45) = ((c.toNat : Int) == 45) := by rw [Bool.eq_iff_iff]; simp; omega
      have a6 : (c.toNat == 46) = ((c.toNat : Int) == 46) := by rw [Bool.eq_iff_iff]; simp; omega
      rw [a1, a2, a3, a4, a5, a6]
    rw [e] at good bad
    clear e hall hc H
    cases x1 : decide ((c.toNat : Int) ≥ 97) <;> cases x2 : decide ((c.toNat : Int) ≤ 122) <;> cases x3 : decide ((c.toNat : Int) ≥ 48) <;> cases x4 : decide ((c.toNat : Int) ≤ 57) <;> cases x5 : ((c.toNat : Int) == 45) <;> cases x6 : ((c.toNat : Int) == 46) <;>
      simp only [x1, x2, x3, x4, x5, x6] at good bad ⊢ <;>
      (repeat (first | exact good rfl | exact bad rfl | refine br (fun hx => ?_) (fun hx => ?_) | (cases hx)))
  · have hi : s.size ≤ i := by simp at h; omega
    refine ⟨_, ⟨?_, rfl⟩, H⟩
    have : s.data.toList.all okc = true := List.all_eq_true.2 fun c hc => by
      obtain ⟨j, hj⟩ := List.getElem?_of_mem hc
      exact hall j c (by have := (List.getElem?_eq_some_iff.1 hj).1; omega) hj
    simp [nameOk, this, hl1, hl2]
end Go.Proofs.YtnhjcjnjpciifaaDoor

/- Append. -/
namespace Go.Proofs.YtnhjcjnjpciifaaDoor
open Go.Sh
attribute [local irreducible] rRun LDI LDB LDS LDP LDSl LDM LD Go.Sh.ST AL ALM LetW CallR CallV CallI NN IX SIX Br Req mInt mBool mStr mPtr mSlice mMap mAgg mTup mCons mNil mNth mPA LoopS

structure PartR where
  (a : Option Addr) (n c : Nat) (bs : List UInt8)
def PartR.hdr (p : PartR) : Value := .slice p.a p.n p.c
def ExtP (w : World) (A : List Own) (v : Value) (ps : List PartR) : Prop := Ext w A 1 v (ps.map PartR.hdr) ∧ ∀ p ∈ ps, Ext w A 1 p.hdr (bvals p.bs)
def plen (ps : List PartR) : Nat := (ps.map fun p => p.bs.length).sum
def pbs (ps : List PartR) : List UInt8 := ps.flatMap fun p => p.bs
theorem plen_take {ps : List PartR} {i : Nat} {p : PartR} (h : ps[i]? = some p) : plen (ps.take (i + 1)) = plen (ps.take i) + p.bs.length := by
  obtain ⟨hi, he⟩ := List.getElem?_eq_some_iff.1 h
  unfold plen
  rw [← List.take_append_getElem hi, List.map_append, List.sum_append, he]
  simp
theorem pbs_take {ps : List PartR} {i : Nat} {p : PartR} (h : ps[i]? = some p) : pbs (ps.take (i + 1)) = pbs (ps.take i) ++ p.bs := by
  obtain ⟨hi, he⟩ := List.getElem?_eq_some_iff.1 h
  unfold pbs
  rw [← List.take_append_getElem hi, List.flatMap_append, he]
  simp
theorem plen_le (ps : List PartR) (i : Nat) : plen (ps.take i) ≤ plen ps := by
  unfold plen
  conv => rhs; rw [← List.take_append_drop i ps, List.map_append, List.sum_append]
  omega
theorem pbs_len (ps : List PartR) : (pbs ps).length = plen ps := by
  unfold pbs plen
  rw [List.length_flatMap]

def bsOf (l : Files) (s : ByteArray) : List UInt8 := ((aget l s).map (·.bs)).getD []
def synOf (l : Files) (s : ByteArray) : Nat := ((aget l s).map (·.syn)).getD 0
def ptrs (l : Files) : List (ByteArray × Value) := l.map fun e => (e.1, .pointer (some ⟨e.2.fb, 0, none⟩))

section
variable {w0 w : World} {F : List Nat} {L R : List Own}
theorem append_rest {w1 : World} {db bm : Nat} {size used born : Int} {l : Files} {s : ByteArray} {f0 : FileR} {pa : Option Addr} {pn pc : Nat} {ps : List PartR} {A : List Own} {K : Value → World → Prop}
    (hp : ExtP w A (.slice pa pn pc) ps) (hps : plen ps ≤ 1000000000) (hf0 : f0.bs.length ≤ 10000000000) (hpl : ps.length ≤ 1000000000) (hu : 0 ≤ used ∧ used ≤ 10000000000)
    (H : St w (fps A) w1 [pt f0.fb (.cells #[.slice f0.a f0.n f0.c, .int .i64 f0.syn] 90), sliceO 5 1 (.slice f0.a f0.n f0.c) (bvals f0.bs), filesO (adel l s),
      pt db (.cells #[.int .i64 size, .int .i64 used, .int .i64 born, .map (some bm)] 75), mapO strV bm (aput (ptrs l) s (.pointer (some ⟨f0.fb, 0, none⟩)))])
    (hK : ∀ w' f, f.bs = f0.bs ++ pbs ps → f.syn = f0.syn → St w (fps A) w' [diskO db bm size (used + plen ps) born (aput l s f)] → K (.int .i64 0) w') :
    disk_Disk_Append_b3 (some ⟨db, 0, none⟩) pa pn pc (plen ps : Int) (some ⟨f0.fb, 0, none⟩) K w1 := by
  have hpn : pn = ps.length := by
    obtain ⟨⟨_, _, _, he, h1, _⟩, _⟩ := hp.1
    cases he
    simpa using h1
  subst hpn
  refine wLoop (fun k x w' => ∃ (i : Nat) (f : FileR), k + i = ps.length ∧ x = (some ⟨db, 0, none⟩, (plen ps : Int), some ⟨f0.fb, 0, none⟩, pa, ps.length, pc, (ps.length : Int), (i : Int)) ∧
    f.fb = f0.fb ∧ f.syn = f0.syn ∧ f.bs = f0.bs ++ pbs (ps.take i) ∧
    St w (fps A) w' [pt f.fb (.cells #[.slice f.a f.n f.c, .int .i64 f.syn] 90), sliceO 5 1 (.slice f.a f.n f.c) (bvals f.bs), filesO (adel l s),
      pt db (.cells #[.int .i64 size, .int .i64 used, .int .i64 born, .map (some bm)] 75), mapO strV bm (aput (ptrs l) s (.pointer (some ⟨f0.fb, 0, none⟩)))]) ?_ ?_
  · exact ⟨ps.length, 0, f0, by omega, rfl, rfl, rfl, by simp [pbs], H⟩
  rintro k x w2 ⟨i, f, hk, rfl, hfb, hsyn, hbs, H⟩
  refine br (fun h => ?_) (fun h => ?_)
  · have hi : i < ps.length := by simp at h; omega
    obtain ⟨p, hpi⟩ : ∃ p, ps[i]? = some p := ⟨_, List.getElem?_eq_getElem hi⟩
    refine wIXr (hp.1.reads (by decide) H.fr) (i := i) (by simpa using hi) rfl fun ad had => ?_
    rw [List.getElem?_map, hpi] at had
    refine ldSl (b := p.a) (l := p.n) (c := p.c) had (nn ?_)
    rw [← hfb]
    repeat (first | refine nn ?_ | refine wI H (hK := ?_) | refine wP H (hK := ?_) | refine wM H (hK := ?_) | refine wSl H (hK := ?_) | refine wB H (hK := ?_) | refine wS H (hK := ?_) | refine wEq ?_ | refine wC H (hK := ?_) | (refine wLW H ?_; intro w1 H) | (refine wST H (hK := ?_); intro w1 H _) | refine mSlice_mk ?_ | refine mInt_mk ?_ | refine mBool_mk ?_ | refine mTup_mk ?_ | refine mCons_mk ?_ | refine mNil_mk ?_ | refine mAgg_mk ?_ | refine mPtr_mk ?_ | refine mStr_mk ?_)
    have hr := (hp.2 p (List.mem_of_getElem? hpi)).reads (by decide) H.fr
    obtain ⟨m, _, hsrc⟩ := hr.src (P := Tryd.prog) (tx := 41) elem_bytes.under (bvals_one p.bs)
    have hl := plen_le ps (i + 1)
    have htk := plen_take hpi
    have hbl : f.bs.length = f0.bs.length + plen (ps.take i) := by rw [hbs, List.length_append, pbs_len]
    refine append_own (t := 41) (n := m) elem_bytes (i := 1) H rfl hsrc (by simp; omega) (by decide) fun v' w3 H hf _ => ?_
    obtain ⟨a', len, cap, rfl, _⟩ := (H.get (i := 1) rfl : SliceAt _ _ _ _ _)
    rw [← bvals_append] at H
    repeat (first | refine nn ?_ | refine wI H (hK := ?_) | refine wP H (hK := ?_) | refine wM H (hK := ?_) | refine wSl H (hK := ?_) | refine wB H (hK := ?_) | refine wS H (hK := ?_) | refine wEq ?_ | refine wC H (hK := ?_) | (refine wLW H ?_; intro w1 H) | (refine wST H (hK := ?_); intro w1 H _) | refine mSlice_mk ?_ | refine mInt_mk ?_ | refine mBool_mk ?_ | refine mTup_mk ?_ | refine mCons_mk ?_ | refine mNil_mk ?_ | refine mAgg_mk ?_ | refine mPtr_mk ?_ | refine mStr_mk ?_)
    have hw : IntKind.wrap .i64 ((i : Int) + 1) = ((i + 1 : Nat) : Int) := by rw [wrap_id (by omega) (by omega)]; rfl
    show ∃ k', k' < k ∧ _
    rw [← hfb] at H
    exact ⟨k - 1, by omega, i + 1, ⟨f.fb, a', len, cap, f.bs ++ p.bs, f.syn⟩, by omega, by rw [hw], rfl, hsyn, by rw [pbs_take hpi, hbs, List.append_assoc], H⟩
  · have hi : ps.length ≤ i := by simp at h; omega
    rw [List.take_of_length_le hi] at hbs
    repeat (first | refine nn ?_ | refine wI H (hK := ?_) | refine wP H (hK := ?_) | refine wM H (hK := ?_) | refine wSl H (hK := ?_) | refine wB H (hK := ?_) | refine wS H (hK := ?_) | refine wEq ?_ | refine wC H (hK := ?_) | (refine wLW H ?_; intro w1 H) | (refine wST H (hK := ?_); intro w1 H _) | refine mSlice_mk ?_ | refine mInt_mk ?_ | refine mBool_mk ?_ | refine mTup_mk ?_ | refine mCons_mk ?_ | refine mNil_mk ?_ | refine mAgg_mk ?_ | refine mPtr_mk ?_ | refine mStr_mk ?_)
    have hw : IntKind.wrap .i64 (used + (plen ps : Int)) = used + (plen ps : Int) := wrap_id (by omega) (by omega)
    rw [hw] at H
    refine hK _ f hbs hsyn ?_
    have H := file_in H
    rw [← hfb] at H
    have e : aput (ptrs l) s (.pointer (some ⟨f.fb, 0, none⟩)) = ptrs (aput l s f) := aput_map (fun f : FileR => (.pointer (some ⟨f.fb, 0, none⟩) : Value)) l s f
    rw [e] at H
    have H := (H.front (mapO strV bm (ptrs (aput l s f)))).front (pt db (.cells #[.int .i64 size, .int .i64 (used + plen ps), .int .i64 born, .map (some bm)] 75))
    exact St.diskClose H

theorem Append_spec {db bm : Nat} {size used born : Int} {l : Files} {s : ByteArray} {pa : Option Addr} {pn pc : Nat} {ps : List PartR} (hA : Has w [diskO db bm size used born l])
    (hp : ExtP w [diskO db bm size used born l] (.slice pa pn pc) ps) (hps : plen ps ≤ 1000000000) (hpl : ps.length ≤ 1000000000) (hu : 0 ≤ used ∧ used ≤ 10000000000) (hf0 : (bsOf l s).length ≤ 10000000000) :
    CallS Tryd.prog fn_disk_Disk_Append #[.pointer (some ⟨db, 0, none⟩), .string s, .slice pa pn pc] w [diskO db bm size used born l] fun r _ A =>
      (nameOk s = false ∧ r = .int .i64 1 ∧ A = [diskO db bm size used born l]) ∨
      (nameOk s = true ∧ used + plen ps > size ∧ r = .int .i64 5 ∧ A = [diskO db bm size used born l]) ∨
      (nameOk s = true ∧ used + plen ps ≤ size ∧ r = .int .i64 0 ∧ ∃ f, f.bs = bsOf l s ++ pbs ps ∧ f.syn = synOf l s ∧ A = [diskO db bm size (used + plen ps) born (aput l s f)]) := by
  have hpn : pn = ps.length := by
    obtain ⟨⟨_, _, _, he, h1, _⟩, _⟩ := hp.1
    cases he
    simpa using h1
  subst hpn
  refine CallS_intro hA fun H => disk_Disk_Append_sound _ _ _ _ _ _ _ ?_
  refine wLoop (fun k x w' => ∃ i : Nat, k + i = ps.length ∧ x = (some ⟨db, 0, none⟩, s, pa, ps.length, pc, (plen (ps.take i) : Int), pa, ps.length, pc, (ps.length : Int), (i : Int)) ∧
    St w (fps [diskO db bm size used born l]) w' [diskO db bm size used born l]) ?_ ?_
  · exact ⟨ps.length, 0, by omega, rfl, H⟩
  rintro k x w1 ⟨i, hk, rfl, H⟩
  refine br (fun h => ?_) (fun h => ?_)
  · have hi : i < ps.length := by simp at h; omega
    obtain ⟨p, hpi⟩ : ∃ p, ps[i]? = some p := ⟨_, List.getElem?_eq_getElem hi⟩
    refine wIXr (hp.1.reads (by decide) H.fr) (i := i) (by simpa using hi) rfl fun ad had => ?_
    rw [List.getElem?_map, hpi] at had
    refine ldSl (b := p.a) (l := p.n) (c := p.c) had ?_
    have hpn : p.n = p.bs.length := by
      obtain ⟨⟨_, _, _, he, h1, _⟩, _⟩ := hp.2 p (List.mem_of_getElem? hpi)
      cases he
      simpa using h1
    have hl := plen_le ps (i + 1)
    have htk := plen_take hpi
    have hw : IntKind.wrap .i64 ((i : Int) + 1) = ((i + 1 : Nat) : Int) := by rw [wrap_id (by omega) (by omega)]; rfl
    have hw2 : IntKind.wrap .i64 ((plen (ps.take i) : Int) + (p.n : Int)) = (plen (ps.take (i + 1)) : Int) := by rw [wrap_id (by omega) (by omega)]; omega
    show ∃ k', k' < k ∧ _
    exact ⟨k - 1, by omega, i + 1, by omega, by rw [hw, hw2], H⟩
  have hi : ps.length ≤ i := by simp at h; omega
  simp only [List.take_of_length_le hi]
  refine wCall H (fun _ => Name_spec s w1) (hK := ?_)
  rintro r w1 A' ⟨rfl, rfl⟩ _ H
  repeat (first | refine nn ?_ | refine wI H (hK := ?_) | refine wP H (hK := ?_) | refine wM H (hK := ?_) | refine wSl H (hK := ?_) | refine wB H (hK := ?_) | refine wS H (hK := ?_) | refine wEq ?_ | refine wC H (hK := ?_) | (refine wLW H ?_; intro w1 H) | (refine wST H (hK := ?_); intro w1 H _) | refine mSlice_mk ?_ | refine mInt_mk ?_ | refine mBool_mk ?_ | refine mTup_mk ?_ | refine mCons_mk ?_ | refine mNil_mk ?_ | refine mAgg_mk ?_ | refine mPtr_mk ?_ | refine mStr_mk ?_)
  refine br (fun hno => ⟨_, .inl ⟨by simpa using hno, rfl, rfl⟩, H⟩) (fun hok => ?_)
  have hok : nameOk s = true := by simpa using hok
  have H := St.diskOpen (R := []) H
  repeat (first | refine nn ?_ | refine wI H (hK := ?_) | refine wP H (hK := ?_) | refine wM H (hK := ?_) | refine wSl H (hK := ?_) | refine wB H (hK := ?_) | refine wS H (hK := ?_) | refine wEq ?_ | refine wC H (hK := ?_) | (refine wLW H ?_; intro w1 H) | (refine wST H (hK := ?_); intro w1 H _) | refine mSlice_mk ?_ | refine mInt_mk ?_ | refine mBool_mk ?_ | refine mTup_mk ?_ | refine mCons_mk ?_ | refine mNil_mk ?_ | refine mAgg_mk ?_ | refine mPtr_mk ?_ | refine mStr_mk ?_)
  have hw : IntKind.wrap .i64 (used + (plen ps : Int)) = used + (plen ps : Int) := wrap_id (by omega) (by omega)
  rw [hw]
  refine br (fun hf => ⟨_, .inr (.inl ⟨hok, by simpa using hf, rfl, rfl⟩), H.diskClose⟩) (fun hf => ?_)
  have hfit : used + plen ps ≤ size := by simpa using hf
  repeat (first | refine nn ?_ | refine wI H (hK := ?_) | refine wP H (hK := ?_) | refine wM H (hK := ?_) | refine wSl H (hK := ?_) | refine wB H (hK := ?_) | refine wS H (hK := ?_) | refine wEq ?_ | refine wC H (hK := ?_) | (refine wLW H ?_; intro w1 H) | (refine wST H (hK := ?_); intro w1 H _) | refine mSlice_mk ?_ | refine mInt_mk ?_ | refine mBool_mk ?_ | refine mTup_mk ?_ | refine mCons_mk ?_ | refine mNil_mk ?_ | refine mAgg_mk ?_ | refine mPtr_mk ?_ | refine mStr_mk ?_)
  refine wLookupF H (hK := ?_)
  cases hg : aget l s with
  | none =>
    refine mPtr_mk (br (fun _ => ?_) (fun h => by cases h))
    refine wAL H fun fb w1 H => ?_
    repeat (first | refine nn ?_ | refine wI H (hK := ?_) | refine wP H (hK := ?_) | refine wM H (hK := ?_) | refine wSl H (hK := ?_) | refine wB H (hK := ?_) | refine wS H (hK := ?_) | refine wEq ?_ | refine wC H (hK := ?_) | (refine wLW H ?_; intro w1 H) | (refine wST H (hK := ?_); intro w1 H _) | refine mSlice_mk ?_ | refine mInt_mk ?_ | refine mBool_mk ?_ | refine mTup_mk ?_ | refine mCons_mk ?_ | refine mNil_mk ?_ | refine mAgg_mk ?_ | refine mPtr_mk ?_ | refine mStr_mk ?_)
    refine mapUpdate_own map_str (i := 2) H rfl s _ fun w1 H _ => ?_
    have H := H.front (filesO l)
    rw [show filesO l = filesO (adel l s) by rw [adel_none hg]] at H
    have H := ((H.nothing 5 1 none).front (pt fb (.cells #[.slice none 0 0, .int .i64 0] 90)))
    refine append_rest (f0 := ⟨fb, none, 0, 0, [], 0⟩) hp hps (by simp) hpl hu H fun w' f h1 h2 H => ?_
    exact ⟨_, .inr (.inr ⟨hok, hfit, rfl, f, by simpa [bsOf, hg] using h1, by simpa [synOf, hg] using h2, rfl⟩), H⟩
  | some f0 =>
    refine mPtr_mk (br (fun h => by cases h) (fun _ => ?_))
    have H := file_out (H.front (filesO l)) hg
    have e : aput (ptrs l) s (.pointer (some ⟨f0.fb, 0, none⟩)) = ptrs l := aput_self (by
      have := aget_map (fun f : FileR => (.pointer (some ⟨f.fb, 0, none⟩) : Value)) l s
      rw [hg] at this
      exact this)
    have H : St w (fps [diskO db bm size used born l]) _ [pt f0.fb (.cells #[.slice f0.a f0.n f0.c, .int .i64 f0.syn] 90), sliceO 5 1 (.slice f0.a f0.n f0.c) (bvals f0.bs), filesO (adel l s),
      pt db (.cells #[.int .i64 size, .int .i64 used, .int .i64 born, .map (some bm)] 75), mapO strV bm (ptrs l)] := H
    rw [← e] at H
    refine append_rest hp hps (by simpa [bsOf, hg] using hf0) hpl hu H fun w' f h1 h2 H => ?_
    exact ⟨_, .inr (.inr ⟨hok, hfit, rfl, f, by simpa [bsOf, hg] using h1, by simpa [synOf, hg] using h2, rfl⟩), H⟩
end
end Go.Proofs.YtnhjcjnjpciifaaDoor

/- Unsynced, Lose, Rename. -/
namespace Go.Proofs.YtnhjcjnjpciifaaDoor
open Go.Sh
attribute [local irreducible] rRun LDI LDB LDS LDP LDSl LDM LD Go.Sh.ST AL ALM LetW CallR CallV CallI NN IX SIX Br Req mInt mBool mStr mPtr mSlice mMap mAgg mTup mCons mNil mNth mPA LoopS

theorem aget_adel_ne {β : Type} {l : List (ByteArray × β)} {k j : ByteArray} (h : j ≠ k) : aget (adel l k) j = aget l j := by
  induction l with
  | nil => rfl
  | cons e t ih =>
    obtain ⟨a, y⟩ := e
    simp only [adel]
    split
    · rename_i hk; subst hk; simp only [aget, h, if_false]
    · simp only [aget, ih]
theorem adel_aput_comm {β : Type} {l : List (ByteArray × β)} {k j : ByteArray} (x : β) (h : j ≠ k) : adel (aput l j x) k = aput (adel l k) j x := by
  induction l with
  | nil => simp [aput, adel, Ne.symm h]
  | cons e t ih =>
    obtain ⟨a, y⟩ := e
    by_cases h1 : j = a
    · subst h1
      simp only [aput, adel, if_true, Ne.symm h, if_false]
    · by_cases h2 : k = a
      · subst h2
        simp only [aput, adel, h1, if_false, if_true]
      · simp only [aput, adel, h1, h2, if_false, ih]

section
variable {w0 w : World} {F : List Nat} {L R : List Own}
/-- The renamed file's place. -/
theorem rename_rest {w1 : World} {A : List Own} {db bm : Nat} {size used born : Int} {l : Files} {s t : ByteArray} {f : FileR} {K : Value → World → Prop} (hst : t ≠ s)
    (H : St w (fps A) w1 [pt f.fb (.cells #[.slice f.a f.n f.c, .int .i64 f.syn] 90), sliceO 5 1 (.slice f.a f.n f.c) (bvals f.bs), filesO (adel (adel l s) t),
      pt db (.cells #[.int .i64 size, .int .i64 used, .int .i64 born, .map (some bm)] 75), filesM bm l])
    (hK : ∀ w', St w (fps A) w' [diskO db bm size used born (aput (adel l s) t f)] → K (.int .i64 0) w') :
    disk_Disk_Rename_b0 (some ⟨db, 0, none⟩) s t (some ⟨f.fb, 0, none⟩) K w1 := by
  refine nn ?_
  repeat (first | refine nn ?_ | refine wI H (hK := ?_) | refine wP H (hK := ?_) | refine wM H (hK := ?_) | refine wSl H (hK := ?_) | refine wB H (hK := ?_) | refine wS H (hK := ?_) | refine wEq ?_ | refine wC H (hK := ?_) | (refine wLW H ?_; intro w1 H) | (refine wST H (hK := ?_); intro w1 H _) | refine mSlice_mk ?_ | refine mInt_mk ?_ | refine mBool_mk ?_ | refine mTup_mk ?_ | refine mCons_mk ?_ | refine mNil_mk ?_ | refine mAgg_mk ?_ | refine mPtr_mk ?_ | refine mStr_mk ?_)
  refine mapUpdate_own map_str (i := 4) H rfl t _ fun w2 H _ => ?_
  repeat (first | refine nn ?_ | refine wI H (hK := ?_) | refine wP H (hK := ?_) | refine wM H (hK := ?_) | refine wSl H (hK := ?_) | refine wB H (hK := ?_) | refine wS H (hK := ?_) | refine wEq ?_ | refine wC H (hK := ?_) | (refine wLW H ?_; intro w1 H) | (refine wST H (hK := ?_); intro w1 H _) | refine mSlice_mk ?_ | refine mInt_mk ?_ | refine mBool_mk ?_ | refine mTup_mk ?_ | refine mCons_mk ?_ | refine mNil_mk ?_ | refine mAgg_mk ?_ | refine mPtr_mk ?_ | refine mStr_mk ?_)
  refine delete_own map_str (i := 4) H rfl s fun w3 H _ => ?_
  repeat (first | refine nn ?_ | refine wI H (hK := ?_) | refine wP H (hK := ?_) | refine wM H (hK := ?_) | refine wSl H (hK := ?_) | refine wB H (hK := ?_) | refine wS H (hK := ?_) | refine wEq ?_ | refine wC H (hK := ?_) | (refine wLW H ?_; intro w1 H) | (refine wST H (hK := ?_); intro w1 H _) | refine mSlice_mk ?_ | refine mInt_mk ?_ | refine mBool_mk ?_ | refine mTup_mk ?_ | refine mCons_mk ?_ | refine mNil_mk ?_ | refine mAgg_mk ?_ | refine mPtr_mk ?_ | refine mStr_mk ?_)
  refine hK _ ?_
  rw [adel_aput_comm _ hst] at H
  have e : aput (adel (l.map fun e => (e.1, (.pointer (some ⟨e.2.fb, 0, none⟩) : Value))) s) t (.pointer (some ⟨f.fb, 0, none⟩)) = ptrs (aput (adel l s) t f) := by
    rw [adel_map (fun f : FileR => (.pointer (some ⟨f.fb, 0, none⟩) : Value))]
    exact aput_map (fun f : FileR => (.pointer (some ⟨f.fb, 0, none⟩) : Value)) (adel l s) t f
  rw [e] at H
  have H := file_in (l := adel l s) (s := t) H
  have H := (H.front (mapO strV bm (ptrs (aput (adel l s) t f)))).front (pt db (.cells #[.int .i64 size, .int .i64 used, .int .i64 born, .map (some bm)] 75))
  exact St.diskClose H

attribute [local irreducible] disk_Disk_Rename_b0
theorem Rename_spec {db bm : Nat} {size used born : Int} {l : Files} {s t : ByteArray} (hA : Has w [diskO db bm size used born l]) (hu : -1000000000000 ≤ used ∧ used ≤ 1000000000000) (hn : (bsOf l t).length ≤ 1000000000000) :
    CallS Tryd.prog fn_disk_Disk_Rename #[.pointer (some ⟨db, 0, none⟩), .string s, .string t] w [diskO db bm size used born l] fun r _ A =>
      (aget l s = none ∧ r = .int .i64 4 ∧ A = [diskO db bm size used born l]) ∨
      (∃ f, aget l s = some f ∧ nameOk t = false ∧ r = .int .i64 1 ∧ A = [diskO db bm size used born l]) ∨
      (∃ f, aget l s = some f ∧ nameOk t = true ∧ s = t ∧ r = .int .i64 0 ∧ A = [diskO db bm size used born l]) ∨
      (∃ f, aget l s = some f ∧ nameOk t = true ∧ s ≠ t ∧ r = .int .i64 0 ∧ A = [diskO db bm size (used - (bsOf l t).length) born (aput (adel l s) t f)]) := by
  refine CallS_intro hA fun H => disk_Disk_Rename_sound _ _ _ _ _ ?_
  have H := H.diskOpen
  repeat (first | refine nn ?_ | refine wI H (hK := ?_) | refine wP H (hK := ?_) | refine wM H (hK := ?_) | refine wSl H (hK := ?_) | refine wB H (hK := ?_) | refine wS H (hK := ?_) | refine wEq ?_ | refine wC H (hK := ?_) | (refine wLW H ?_; intro w1 H) | (refine wST H (hK := ?_); intro w1 H _) | refine mSlice_mk ?_ | refine mInt_mk ?_ | refine mBool_mk ?_ | refine mTup_mk ?_ | refine mCons_mk ?_ | refine mNil_mk ?_ | refine mAgg_mk ?_ | refine mPtr_mk ?_ | refine mStr_mk ?_)
  refine wLookupF H (hK := ?_)
  cases hg : aget l s with
  | none =>
    refine mPtr_mk (br (fun _ => ?_) (fun h => by cases h))
    exact ⟨_, .inl ⟨rfl, rfl, rfl⟩, H.diskClose⟩
  | some f =>
    refine mPtr_mk (br (fun h => by cases h) (fun _ => ?_))
    refine wCall H (fun _ => Name_spec t _) (hK := ?_)
    rintro r w1 A' ⟨rfl, rfl⟩ _ H
    repeat (first | refine nn ?_ | refine wI H (hK := ?_) | refine wP H (hK := ?_) | refine wM H (hK := ?_) | refine wSl H (hK := ?_) | refine wB H (hK := ?_) | refine wS H (hK := ?_) | refine wEq ?_ | refine wC H (hK := ?_) | (refine wLW H ?_; intro w1 H) | (refine wST H (hK := ?_); intro w1 H _) | refine mSlice_mk ?_ | refine mInt_mk ?_ | refine mBool_mk ?_ | refine mTup_mk ?_ | refine mCons_mk ?_ | refine mNil_mk ?_ | refine mAgg_mk ?_ | refine mPtr_mk ?_ | refine mStr_mk ?_)
    refine br (fun h => ⟨_, .inr (.inl ⟨f, rfl, by simpa using h, rfl, rfl⟩), St.diskClose (R := []) H⟩) (fun hok => ?_)
    have hok : nameOk t = true := by simpa using hok
    refine br (fun h => ?_) (fun h => ?_)
    · have hst : s = t := by
        have : s.toList = t.toList := by simpa using h
        rw [ByteArray.toList_eq, ByteArray.toList_eq] at this
        cases s; cases t
        simpa using this
      exact ⟨_, .inr (.inr (.inl ⟨f, rfl, hok, hst, rfl, rfl⟩)), St.diskClose (R := []) H⟩
    · have hst : t ≠ s := fun e => by subst e; simp at h
      repeat (first | refine nn ?_ | refine wI H (hK := ?_) | refine wP H (hK := ?_) | refine wM H (hK := ?_) | refine wSl H (hK := ?_) | refine wB H (hK := ?_) | refine wS H (hK := ?_) | refine wEq ?_ | refine wC H (hK := ?_) | (refine wLW H ?_; intro w1 H) | (refine wST H (hK := ?_); intro w1 H _) | refine mSlice_mk ?_ | refine mInt_mk ?_ | refine mBool_mk ?_ | refine mTup_mk ?_ | refine mCons_mk ?_ | refine mNil_mk ?_ | refine mAgg_mk ?_ | refine mPtr_mk ?_ | refine mStr_mk ?_)
      refine wLookupF H (hK := ?_)
      have H := file_out (H.front (filesO l)) hg
      cases hg2 : aget l t with
      | none =>
        refine mPtr_mk (br (fun h => by cases h) (fun _ => ?_))
        rw [show filesO (adel l s) = filesO (adel (adel l s) t) by rw [adel_none (l := adel l s) (by rw [aget_adel_ne hst, hg2])]] at H
        refine rename_rest hst H fun w' H => ?_
        exact ⟨_, .inr (.inr (.inr ⟨f, rfl, hok, Ne.symm hst, rfl, by simp [bsOf, hg2]⟩)), H⟩
      | some o =>
        refine mPtr_mk (br (fun _ => ?_) (fun h => by cases h))
        have H := file_out (H.front (filesO (adel l s))) (by rw [aget_adel_ne hst, hg2])
        obtain ⟨_, _, _, he, h1, _⟩ := (H.has.all (sliceO 5 1 (.slice o.a o.n o.c) (bvals o.bs)) (by simp) : SliceAt _ 5 1 (.slice o.a o.n o.c) (bvals o.bs))
        cases he
        have hon : o.n = o.bs.length := by simpa using h1
        repeat (first | refine nn ?_ | refine wI H (hK := ?_) | refine wP H (hK := ?_) | refine wM H (hK := ?_) | refine wSl H (hK := ?_) | refine wB H (hK := ?_) | refine wS H (hK := ?_) | refine wEq ?_ | refine wC H (hK := ?_) | (refine wLW H ?_; intro w1 H) | (refine wST H (hK := ?_); intro w1 H _) | refine mSlice_mk ?_ | refine mInt_mk ?_ | refine mBool_mk ?_ | refine mTup_mk ?_ | refine mCons_mk ?_ | refine mNil_mk ?_ | refine mAgg_mk ?_ | refine mPtr_mk ?_ | refine mStr_mk ?_)
        have hl : (bsOf l t).length = o.bs.length := by simp [bsOf, hg2]
        have hw : IntKind.wrap .i64 (used - (o.n : Int)) = used - ((bsOf l t).length : Int) := by rw [hon, hl]; exact wrap_id (by omega) (by omega)
        rw [hw] at H
        have H := ((H.tail.tail).front (sliceO 5 1 (.slice f.a f.n f.c) (bvals f.bs))).front (pt f.fb (.cells #[.slice f.a f.n f.c, .int .i64 f.syn] 90))
        refine rename_rest hst H fun w' H => ?_
        exact ⟨_, .inr (.inr (.inr ⟨f, rfl, hok, Ne.symm hst, rfl, rfl⟩)), H⟩
end
end Go.Proofs.YtnhjcjnjpciifaaDoor

/- all, by ContainsFunc and IndexFunc. -/
namespace Go.Proofs.YtnhjcjnjpciifaaDoor
open Go.Sh
attribute [local irreducible] rRun LDI LDB LDS LDP LDSl LDM LD Go.Sh.ST AL ALM LetW CallR CallV CallI NN IX SIX Br Req mInt mBool mStr mPtr mSlice mMap mAgg mTup mCons mNil mNth mPA LoopS

section
variable {w0 w : World} {F : List Nat} {L R : List Own}
def strs (l : List ByteArray) : List Value := l.map Value.string
def allIn (l : Files) (ns : List ByteArray) : Bool := ns.all fun s => (aget l s).isSome
/-- The closure of 'all': whether a name is missing. -/
theorem all1_walk {d1 db bm : Nat} {size used born : Int} {l : Files} {s : ByteArray} {K : Value → World → Prop}
    (H : St w0 F w [pt d1 (.cells #[.pointer (some ⟨db, 0, none⟩)] 42), pt db (.cells #[.int .i64 size, .int .i64 used, .int .i64 born, .map (some bm)] 75), filesM bm l, filesO l])
    (hK : K (.bool (aget l s).isNone) w) :
    CallV Tryd.prog (.func (.func fn_disk_Disk_all_1) #[] #[.pointer (some ⟨d1, 0, none⟩)]) [.string s] w K := by
  refine wCallV (by kernel_rfl) (disk_Disk_all_1_sound s ⟨d1, 0, none⟩ K w ?_)
  repeat (first | refine nn ?_ | refine wI H (hK := ?_) | refine wP H (hK := ?_) | refine wM H (hK := ?_) | refine wSl H (hK := ?_) | refine wB H (hK := ?_) | refine wS H (hK := ?_) | refine wEq ?_ | refine wC H (hK := ?_) | (refine wLW H ?_; intro w1 H) | (refine wST H (hK := ?_); intro w1 H _) | refine mSlice_mk ?_ | refine mInt_mk ?_ | refine mBool_mk ?_ | refine mTup_mk ?_ | refine mCons_mk ?_ | refine mNil_mk ?_ | refine mAgg_mk ?_ | refine mPtr_mk ?_ | refine mStr_mk ?_)
  refine wLookupF H (hK := ?_)
  refine mPtr_mk ?_
  cases hg : aget l s <;> (rw [hg] at hK; exact hK)
theorem all_spec {db bm : Nat} {size used born : Int} {l : Files} {na : Option Addr} {nn' nc : Nat} {ns : List ByteArray} (hA : Has w [diskO db bm size used born l])
    (hb : Ext w [diskO db bm size used born l] 1 (.slice na nn' nc) (strs ns)) (hl : ns.length ≤ 1000000000000) :
    CallS Tryd.prog fn_disk_Disk_all #[.pointer (some ⟨db, 0, none⟩), .slice na nn' nc] w [diskO db bm size used born l] fun r _ A => r = .bool (allIn l ns) ∧ A = [diskO db bm size used born l] := by
  have hn : nn' = ns.length := by
    obtain ⟨⟨_, _, _, he, h1, _⟩, _⟩ := hb
    cases he
    simpa [strs] using h1
  subst hn
  refine CallS_intro hA fun H => disk_Disk_all_sound _ _ _ _ _ _ ?_
  refine wAL H fun d1 w1 H => ?_
  have H := (H.front (diskO db bm size used born l)).diskOpen
  have H := H.front (pt d1 (.cells #[.pointer (some ⟨db, 0, none⟩)] 42))
  refine slices_ContainsFunc_s_string_string_sound _ _ _ _ _ _ ?_
  refine slices_IndexFunc_s_string_string_sound _ _ _ _ _ _ ?_
  refine wLoop (fun k x w' => ∃ i : Nat, k + i = ns.length ∧ x = (na, ns.length, nc, .func (.func fn_disk_Disk_all_1) #[] #[.pointer (some ⟨d1, 0, none⟩)], (ns.length : Int), (i : Int)) ∧ (∀ j s, j < i → ns[j]? = some s → (aget l s).isSome = true) ∧
    St w (fps [diskO db bm size used born l]) w' [pt d1 (.cells #[.pointer (some ⟨db, 0, none⟩)] 42), pt db (.cells #[.int .i64 size, .int .i64 used, .int .i64 born, .map (some bm)] 75), filesM bm l, filesO l]) ?_ ?_
  · exact ⟨ns.length, 0, by omega, rfl, fun j s hj _ => by omega, H⟩
  rintro k x w1 ⟨i, hk, rfl, hall, H⟩
  refine br (fun h => ?_) (fun h => ?_)
  · have hi : i < ns.length := by simp at h; omega
    obtain ⟨s, hs⟩ : ∃ s, ns[i]? = some s := ⟨_, List.getElem?_eq_getElem hi⟩
    refine wIXr (hb.reads (by decide) H.fr) (i := i) (by simpa [strs] using hi) rfl fun ad had => ?_
    have hcell : (strs ns)[i]? = some (.string s) := by simp [strs, hs]
    rw [hcell] at had
    refine ldS had ?_
    refine all1_walk H ?_
    refine mBool_mk (br (fun hno => ?_) (fun hno => ?_))
    · refine mInt_mk (mBool_mk ?_)
      have hd : decide ((i : Int) ≥ 0) = true := by simp
      have hf : allIn l ns = false := List.all_eq_false.2 ⟨s, List.mem_of_getElem? hs, by
        cases hg : aget l s with
        | none => simp
        | some f => rw [hg] at hno; cases hno⟩
      exact ⟨_, ⟨by rw [hd, hf]; rfl, rfl⟩, H.tail.diskClose⟩
    · have hw : IntKind.wrap .i64 ((i : Int) + 1) = ((i + 1 : Nat) : Int) := by rw [wrap_id (by omega) (by omega)]; rfl
      show ∃ k', k' < k ∧ _
      refine ⟨k - 1, by omega, i + 1, by omega, by rw [hw], fun j t hj ht => ?_, H⟩
      by_cases hji : j = i
      · subst hji
        rw [hs] at ht
        cases ht
        cases hg : aget l s with
        | none => rw [hg] at hno; cases hno
        | some f => rfl
      · exact hall j t (by omega) ht
  · have hi : ns.length ≤ i := by simp at h; omega
    have ht : allIn l ns = true := List.all_eq_true.2 fun s hs => by
      obtain ⟨j, hj⟩ := List.getElem?_of_mem hs
      exact hall j s (by have := (List.getElem?_eq_some_iff.1 hj).1; omega) hj
    refine mInt_mk (mBool_mk ?_)
    have hd : decide ((-1 : Int) ≥ 0) = false := by decide
    exact ⟨_, ⟨by rw [hd, ht]; rfl, rfl⟩, H.tail.diskClose⟩
end
end Go.Proofs.YtnhjcjnjpciifaaDoor

/- Sync. -/
namespace Go.Proofs.YtnhjcjnjpciifaaDoor
open Go.Sh
attribute [local irreducible] rRun LDI LDB LDS LDP LDSl LDM LD Go.Sh.ST AL ALM LetW CallR CallV CallI NN IX SIX Br Req mInt mBool mStr mPtr mSlice mMap mAgg mTup mCons mNil mNth mPA LoopS

def syncOne (l : Files) (s : ByteArray) : Files := match aget l s with | some f => aput l s { f with syn := f.bs.length } | none => l
theorem syncOne_some {l : Files} {s t : ByteArray} (h : (aget l t).isSome = true) : (aget (syncOne l s) t).isSome = true := by
  unfold syncOne
  cases hg : aget l s with
  | none => exact h
  | some f =>
    simp only
    by_cases e : t = s
    · subst e; rw [aget_aput]; rfl
    · rw [aget_aput_ne l _ e]; exact h
theorem syncs_some {t : ByteArray} (ns : List ByteArray) : ∀ {l : Files}, (aget l t).isSome = true → (aget (ns.foldl syncOne l) t).isSome = true := by
  induction ns with
  | nil => intro l h; exact h
  | cons s r ih => intro l h; exact ih (syncOne_some h)

section
variable {w0 w : World} {F : List Nat} {L R : List Own}
theorem Sync_spec {db bm : Nat} {size used born : Int} {l : Files} {na : Option Addr} {nn' nc : Nat} {ns : List ByteArray} (hA : Has w [diskO db bm size used born l])
    (hb : Ext w [diskO db bm size used born l] 1 (.slice na nn' nc) (strs ns)) (hl : ns.length ≤ 1000000000000) :
    CallS Tryd.prog fn_disk_Disk_Sync #[.pointer (some ⟨db, 0, none⟩), .slice na nn' nc] w [diskO db bm size used born l] fun r _ A =>
      (allIn l ns = false ∧ r = .int .i64 4 ∧ A = [diskO db bm size used born l]) ∨ (allIn l ns = true ∧ r = .int .i64 0 ∧ A = [diskO db bm size used born (ns.foldl syncOne l)]) := by
  have hn : nn' = ns.length := by
    obtain ⟨⟨_, _, _, he, h1, _⟩, _⟩ := hb
    cases he
    simpa [strs] using h1
  subst hn
  refine CallS_intro hA fun H => disk_Disk_Sync_sound _ _ _ _ _ _ ?_
  refine wCall H (fun hA => all_spec hA hb hl) (hK := ?_)
  rintro r w1 A' ⟨rfl, rfl⟩ _ H
  repeat (first | refine nn ?_ | refine wI H (hK := ?_) | refine wP H (hK := ?_) | refine wM H (hK := ?_) | refine wSl H (hK := ?_) | refine wB H (hK := ?_) | refine wS H (hK := ?_) | refine wEq ?_ | refine wC H (hK := ?_) | (refine wLW H ?_; intro w1 H) | (refine wST H (hK := ?_); intro w1 H _) | refine mSlice_mk ?_ | refine mInt_mk ?_ | refine mBool_mk ?_ | refine mTup_mk ?_ | refine mCons_mk ?_ | refine mNil_mk ?_ | refine mAgg_mk ?_ | refine mPtr_mk ?_ | refine mStr_mk ?_)
  refine br (fun h => ⟨_, .inl ⟨by simpa using h, rfl, rfl⟩, H.left (L := [_])⟩) (fun h => ?_)
  have hall : allIn l ns = true := by simpa using h
  refine wLoop (fun k x w' => ∃ i : Nat, k + i = ns.length ∧ x = (some ⟨db, 0, none⟩, na, ns.length, nc, (ns.length : Int), (i : Int)) ∧
    St w (fps [diskO db bm size used born l]) w' [diskO db bm size used born ((ns.take i).foldl syncOne l)]) ?_ ?_
  · exact ⟨ns.length, 0, by omega, rfl, H.left (L := [_])⟩
  clear H
  rintro k x w1 ⟨i, hk, rfl, H⟩
  refine br (fun h => ?_) (fun h => ?_)
  · have hi : i < ns.length := by simp at h; omega
    obtain ⟨s, hs⟩ : ∃ s, ns[i]? = some s := ⟨_, List.getElem?_eq_getElem hi⟩
    have htk : (ns.take (i + 1)).foldl syncOne l = syncOne ((ns.take i).foldl syncOne l) s := by
      obtain ⟨hi', he⟩ := List.getElem?_eq_some_iff.1 hs
      rw [← List.take_append_getElem hi', List.foldl_append, he]; rfl
    have hsome : (aget ((ns.take i).foldl syncOne l) s).isSome = true := syncs_some _ (List.all_eq_true.1 hall s (List.mem_of_getElem? hs))
    generalize (ns.take i).foldl syncOne l = g at H htk hsome
    obtain ⟨f, hg⟩ := Option.isSome_iff_exists.1 hsome
    refine wIXr (hb.reads (by decide) H.fr) (i := i) (by simpa [strs] using hi) rfl fun ad had => ?_
    have hcell : (strs ns)[i]? = some (.string s) := by simp [strs, hs]
    rw [hcell] at had
    refine ldS had ?_
    have H := H.diskOpen
    repeat (first | refine nn ?_ | refine wI H (hK := ?_) | refine wP H (hK := ?_) | refine wM H (hK := ?_) | refine wSl H (hK := ?_) | refine wB H (hK := ?_) | refine wS H (hK := ?_) | refine wEq ?_ | refine wC H (hK := ?_) | (refine wLW H ?_; intro w1 H) | (refine wST H (hK := ?_); intro w1 H _) | refine mSlice_mk ?_ | refine mInt_mk ?_ | refine mBool_mk ?_ | refine mTup_mk ?_ | refine mCons_mk ?_ | refine mNil_mk ?_ | refine mAgg_mk ?_ | refine mPtr_mk ?_ | refine mStr_mk ?_)
    refine wLookupF H (hK := mPtr_mk ?_)
    repeat (first | refine nn ?_ | refine wI H (hK := ?_) | refine wP H (hK := ?_) | refine wM H (hK := ?_) | refine wSl H (hK := ?_) | refine wB H (hK := ?_) | refine wS H (hK := ?_) | refine wEq ?_ | refine wC H (hK := ?_) | (refine wLW H ?_; intro w1 H) | (refine wST H (hK := ?_); intro w1 H _) | refine mSlice_mk ?_ | refine mInt_mk ?_ | refine mBool_mk ?_ | refine mTup_mk ?_ | refine mCons_mk ?_ | refine mNil_mk ?_ | refine mAgg_mk ?_ | refine mPtr_mk ?_ | refine mStr_mk ?_)
    refine wLookupF H (hK := mPtr_mk ?_)
    rw [hg]
    have H := file_out (H.front (filesO g)) hg
    obtain ⟨_, _, _, he, h1, _⟩ := (H.has.all (sliceO 5 1 (.slice f.a f.n f.c) (bvals f.bs)) (by simp) : SliceAt _ 5 1 (.slice f.a f.n f.c) (bvals f.bs))
    cases he
    have hfn : f.n = f.bs.length := by simpa using h1
    repeat (first | refine nn ?_ | refine wI H (hK := ?_) | refine wP H (hK := ?_) | refine wM H (hK := ?_) | refine wSl H (hK := ?_) | refine wB H (hK := ?_) | refine wS H (hK := ?_) | refine wEq ?_ | refine wC H (hK := ?_) | (refine wLW H ?_; intro w1 H) | (refine wST H (hK := ?_); intro w1 H _) | refine mSlice_mk ?_ | refine mInt_mk ?_ | refine mBool_mk ?_ | refine mTup_mk ?_ | refine mCons_mk ?_ | refine mNil_mk ?_ | refine mAgg_mk ?_ | refine mPtr_mk ?_ | refine mStr_mk ?_)
    have hw : IntKind.wrap .i64 ((i : Int) + 1) = ((i + 1 : Nat) : Int) := by rw [wrap_id (by omega) (by omega)]; rfl
    rw [show ((f.n : Nat) : Int) = ((f.bs.length : Nat) : Int) by rw [hfn]] at H
    have H := file_in (f := { f with syn := f.bs.length }) H
    have e : filesM bm g = filesM bm (aput g s { f with syn := f.bs.length }) := by
      unfold filesM
      congr 1
      have h2 := aput_map (fun f : FileR => (.pointer (some ⟨f.fb, 0, none⟩) : Value)) g s { f with syn := f.bs.length }
      rw [← h2]
      exact (aput_self (by rw [aget_map (fun f : FileR => (.pointer (some ⟨f.fb, 0, none⟩) : Value)), hg]; rfl)).symm
    rw [e] at H
    have H := ((H.front (filesM bm (aput g s { f with syn := f.bs.length }))).front (pt db (.cells #[.int .i64 size, .int .i64 used, .int .i64 born, .map (some bm)] 75))).diskClose
    have e2 : syncOne g s = aput g s { f with syn := f.bs.length } := by unfold syncOne; rw [hg]
    show ∃ k', k' < k ∧ _
    exact ⟨k - 1, by omega, i + 1, by omega, by rw [hw], by rw [htk, e2]; exact H⟩
  · have hi : ns.length ≤ i := by simp at h; omega
    rw [List.take_of_length_le hi] at H
    exact ⟨_, .inr ⟨hall, rfl, rfl⟩, H⟩
end
end Go.Proofs.YtnhjcjnjpciifaaDoor

/- Delete. -/
namespace Go.Proofs.YtnhjcjnjpciifaaDoor
open Go.Sh
attribute [local irreducible] rRun LDI LDB LDS LDP LDSl LDM LD Go.Sh.ST AL ALM LetW CallR CallV CallI NN IX SIX Br Req mInt mBool mStr mPtr mSlice mMap mAgg mTup mCons mNil mNth mPA LoopS

/-- Deleting a name, on how many bytes are used and on the files. -/
def delOne (x : Int × Files) (s : ByteArray) : Int × Files := match aget x.2 s with | some f => (x.1 - f.bs.length, adel x.2 s) | none => x

section
variable {w0 w : World} {F : List Nat} {L R : List Own}
theorem Delete_spec {db bm : Nat} {size used born : Int} {l : Files} {na : Option Addr} {nn' nc : Nat} {ns : List ByteArray} (hA : Has w [diskO db bm size used born l])
    (hb : Ext w [diskO db bm size used born l] 1 (.slice na nn' nc) (strs ns)) (hl : ns.length ≤ 1000000000000)
    (hw : ∀ i f s, ns[i]? = some s → aget ((ns.take i).foldl delOne (used, l)).2 s = some f → -9223372036854775808 ≤ ((ns.take i).foldl delOne (used, l)).1 - f.bs.length ∧ ((ns.take i).foldl delOne (used, l)).1 - f.bs.length < 9223372036854775808) :
    CallS Tryd.prog fn_disk_Disk_Delete #[.pointer (some ⟨db, 0, none⟩), .slice na nn' nc] w [diskO db bm size used born l] fun r _ A =>
      (allIn l ns = false ∧ r = .int .i64 4 ∧ A = [diskO db bm size used born l]) ∨
      (allIn l ns = true ∧ r = .int .i64 0 ∧ A = [diskO db bm size (ns.foldl delOne (used, l)).1 born (ns.foldl delOne (used, l)).2]) := by
  have hn : nn' = ns.length := by
    obtain ⟨⟨_, _, _, he, h1, _⟩, _⟩ := hb
    cases he
    simpa [strs] using h1
  subst hn
  refine CallS_intro hA fun H => disk_Disk_Delete_sound _ _ _ _ _ _ ?_
  refine wCall H (fun hA => all_spec hA hb hl) (hK := ?_)
  rintro r w1 A' ⟨rfl, rfl⟩ _ H
  repeat (first | refine nn ?_ | refine wI H (hK := ?_) | refine wP H (hK := ?_) | refine wM H (hK := ?_) | refine wSl H (hK := ?_) | refine wB H (hK := ?_) | refine wS H (hK := ?_) | refine wEq ?_ | refine wC H (hK := ?_) | (refine wLW H ?_; intro w1 H) | (refine wST H (hK := ?_); intro w1 H _) | refine mSlice_mk ?_ | refine mInt_mk ?_ | refine mBool_mk ?_ | refine mTup_mk ?_ | refine mCons_mk ?_ | refine mNil_mk ?_ | refine mAgg_mk ?_ | refine mPtr_mk ?_ | refine mStr_mk ?_)
  refine br (fun h => ⟨_, .inl ⟨by simpa using h, rfl, rfl⟩, H.left (L := [_])⟩) (fun h => ?_)
  have hall : allIn l ns = true := by simpa using h
  refine wLoop (fun k x w' => ∃ i : Nat, k + i = ns.length ∧ x = (some ⟨db, 0, none⟩, na, ns.length, nc, (ns.length : Int), (i : Int)) ∧
    St w (fps [diskO db bm size used born l]) w' [diskO db bm size ((ns.take i).foldl delOne (used, l)).1 born ((ns.take i).foldl delOne (used, l)).2]) ?_ ?_
  · exact ⟨ns.length, 0, by omega, rfl, H.left (L := [_])⟩
  clear H
  rintro k x w1 ⟨i, hk, rfl, H⟩
  refine br (fun h => ?_) (fun h => ?_)
  · have hi : i < ns.length := by simp at h; omega
    obtain ⟨s, hs⟩ : ∃ s, ns[i]? = some s := ⟨_, List.getElem?_eq_getElem hi⟩
    have htk : (ns.take (i + 1)).foldl delOne (used, l) = delOne ((ns.take i).foldl delOne (used, l)) s := by
      obtain ⟨hi', he⟩ := List.getElem?_eq_some_iff.1 hs
      rw [← List.take_append_getElem hi', List.foldl_append, he]; rfl
    have hwi := fun f => hw i f s hs
    generalize (ns.take i).foldl delOne (used, l) = g at H htk hwi
    obtain ⟨u, g⟩ := g
    have hw1 : IntKind.wrap .i64 ((i : Int) + 1) = ((i + 1 : Nat) : Int) := by rw [wrap_id (by omega) (by omega)]; rfl
    refine wIXr (hb.reads (by decide) H.fr) (i := i) (by simpa [strs] using hi) rfl fun ad had => ?_
    have hcell : (strs ns)[i]? = some (.string s) := by simp [strs, hs]
    rw [hcell] at had
    refine ldS had ?_
    have H := H.diskOpen
    repeat (first | refine nn ?_ | refine wI H (hK := ?_) | refine wP H (hK := ?_) | refine wM H (hK := ?_) | refine wSl H (hK := ?_) | refine wB H (hK := ?_) | refine wS H (hK := ?_) | refine wEq ?_ | refine wC H (hK := ?_) | (refine wLW H ?_; intro w1 H) | (refine wST H (hK := ?_); intro w1 H _) | refine mSlice_mk ?_ | refine mInt_mk ?_ | refine mBool_mk ?_ | refine mTup_mk ?_ | refine mCons_mk ?_ | refine mNil_mk ?_ | refine mAgg_mk ?_ | refine mPtr_mk ?_ | refine mStr_mk ?_)
    refine wLookupF H (hK := mPtr_mk ?_)
    cases hg : aget g s with
    | none =>
      refine br (fun h => by cases h) (fun _ => ?_)
      have e2 : delOne (u, g) s = (u, g) := by unfold delOne; simp only; rw [hg]
      show ∃ k', k' < k ∧ _
      exact ⟨k - 1, by omega, i + 1, by omega, by rw [hw1], by rw [htk, e2]; exact H.diskClose⟩
    | some f =>
      refine br (fun _ => ?_) (fun h => by cases h)
      have H := file_out (H.front (filesO g)) hg
      obtain ⟨_, _, _, he, h1, _⟩ := (H.has.all (sliceO 5 1 (.slice f.a f.n f.c) (bvals f.bs)) (by simp) : SliceAt _ 5 1 (.slice f.a f.n f.c) (bvals f.bs))
      cases he
      have hfn : f.n = f.bs.length := by simpa using h1
      repeat (first | refine nn ?_ | refine wI H (hK := ?_) | refine wP H (hK := ?_) | refine wM H (hK := ?_) | refine wSl H (hK := ?_) | refine wB H (hK := ?_) | refine wS H (hK := ?_) | refine wEq ?_ | refine wC H (hK := ?_) | (refine wLW H ?_; intro w1 H) | (refine wST H (hK := ?_); intro w1 H _) | refine mSlice_mk ?_ | refine mInt_mk ?_ | refine mBool_mk ?_ | refine mTup_mk ?_ | refine mCons_mk ?_ | refine mNil_mk ?_ | refine mAgg_mk ?_ | refine mPtr_mk ?_ | refine mStr_mk ?_)
      have hw2 : IntKind.wrap .i64 (u - (f.n : Int)) = u - (f.bs.length : Int) := by rw [hfn]; exact wrap_id (hwi f hg).1 (hwi f hg).2
      rw [hw2] at H
      refine delete_own map_str (i := 4) H rfl s fun w2 H _ => ?_
      rw [adel_map (fun f : FileR => (.pointer (some ⟨f.fb, 0, none⟩) : Value))] at H
      refine mTup_mk (mNil_mk ?_)
      have H := ((H.tail.tail.front (filesM bm (adel g s))).front (pt db (.cells #[.int .i64 size, .int .i64 (u - f.bs.length), .int .i64 born, .map (some bm)] 75))).diskClose
      have e2 : delOne (u, g) s = (u - f.bs.length, adel g s) := by unfold delOne; simp only; rw [hg]
      show ∃ k', k' < k ∧ _
      exact ⟨k - 1, by omega, i + 1, by omega, by rw [hw1], by rw [htk, e2]; exact H⟩
  · have hi : ns.length ≤ i := by simp at h; omega
    rw [List.take_of_length_le hi] at H
    exact ⟨_, .inr ⟨hall, rfl, rfl⟩, H⟩
end
end Go.Proofs.YtnhjcjnjpciifaaDoor
