/- Crash. -/
import Derived.Test.YtimgbkabfkdabaaHT
namespace Go.Proofs.Ytimgbkabfkdabaa
open Go.Sh
attribute [local irreducible] rRun LDI LDB LDS LDP LDSl LDM LD Go.Sh.ST AL ALM LetW CallR CallV CallI NN IX SIX Br Req mInt mBool mStr mPtr mSlice mMap mAgg mTup mCons mNil mNth mPA LoopS

def ints (l : List Int) : List Value := l.map (Value.int .i64)
def total (l : Files) : Nat := (l.map fun e => e.2.bs.length).sum
def look (l : Files) (s : ByteArray) : Option (List UInt8 × Nat) := (aget l s).map fun f => (f.bs, f.syn)
def whole (l : Files) : Prop := ∀ s f, aget l s = some f → f.syn ≤ f.bs.length
def pickK (p : Option Int) (n : Nat) : Nat := match p with | some p => if 0 ≤ p then (p % ((n : Int) + 1)).toNat else 0 | none => 0
theorem pickK_le (p : Option Int) (n : Nat) : pickK p n ≤ n := by
  unfold pickK
  split
  · split
    · have h1 := Int.emod_lt_of_pos ‹Int› (show (0 : Int) < (n : Int) + 1 by omega)
      have h2 := Int.emod_nonneg ‹Int› (show ((n : Int) + 1) ≠ 0 by omega)
      omega
    · omega
  · omega
def crashF (p : Option Int) (x : List UInt8 × Nat) : List UInt8 × Nat := (x.1.take (x.2 + pickK p (x.1.length - x.2)), x.2 + pickK p (x.1.length - x.2))
def keysOf (l : Files) : List ByteArray := l.map (·.1)

theorem aput_keys {β : Type} {l : List (ByteArray × β)} {k : ByteArray} {v : β} (x : β) (h : aget l k = some v) : (aput l k x).map (·.1) = l.map (·.1) := by
  induction l with
  | nil => cases h
  | cons e t ih =>
    obtain ⟨a, y⟩ := e
    simp only [aget] at h
    simp only [aput]
    split
    · rfl
    · rename_i hk
      rw [if_neg hk] at h
      simp only [List.map_cons, ih h]
theorem look_aput (l : Files) (s : ByteArray) (f : FileR) : look (aput l s f) s = some (f.bs, f.syn) := by unfold look; rw [aget_aput]; rfl
theorem look_aput_ne (l : Files) {s t : ByteArray} (f : FileR) (h : t ≠ s) : look (aput l s f) t = look l t := by unfold look; rw [aget_aput_ne l f h]
theorem total_adel {l : Files} {s : ByteArray} {f : FileR} (h : aget l s = some f) : total (adel l s) + f.bs.length = total l := by
  have := (perm_aget (fun e : ByteArray × FileR => e.2.bs.length) h).sum_nat
  simp only [List.sum_cons] at this
  unfold total
  rw [this]
  exact Nat.add_comm _ _
theorem total_aput {l : Files} {s : ByteArray} (f : FileR) : total (aput l s f) = f.bs.length + total (adel l s) := by
  have h := (perm_aput (fun e : ByteArray × FileR => e.2.bs.length) l s f).sum_nat
  simpa [total] using h

section
variable {w0 w : World} {F : List Nat} {L R : List Own}
theorem _root_.Go.Sh.St.cut {E n cap k : Nat} {x : Option Addr} {cs : List Value} (H : St w0 F w (sliceO E 1 (.slice x n cap) cs :: L)) (hk : k ≤ n) : St w0 F w (sliceO E 1 (.slice x k k) (cs.take k) :: L) := by
  have hat : SliceAt w E 1 (.slice x n cap) cs := H.has.all _ (List.mem_cons_self ..)
  obtain ⟨_, _, _, he, h1, h2, h3⟩ := hat
  cases he
  have hnew : SliceAt w E 1 (.slice x k k) (cs.take k) := by
    refine ⟨_, _, _, rfl, by rw [List.length_take]; omega, Nat.le_refl _, ?_⟩
    rcases h3 with h3 | ⟨b, cc, fz, rfl, hblk, hcs, hcells, hfz⟩
    · exact .inl (by omega)
    · refine .inr ⟨b, cc, fz, rfl, hblk, by omega, fun i hi => ?_, ?_⟩
      · rw [List.length_take] at hi
        rw [List.getElem?_take_of_lt (by omega)]
        exact hcells i (by omega)
      · rcases hfz with h | h
        · exact .inl h
        · exact .inr (by omega)
  have hsub : ∀ b ∈ sfp (.slice x k k), b ∈ sfp (.slice x n cap) := by
    intro b hb
    cases x with
    | none => simp [sfp] at hb
    | some a =>
      cases k with
      | zero => simp [sfp] at hb
      | succ k =>
        obtain ⟨q, rfl⟩ : ∃ q, cap = q + 1 := ⟨cap - 1, by omega⟩
        simpa [sfp] using hb
  refine St.step (A := [sliceO E 1 (.slice x n cap) cs]) (A' := [sliceO E 1 (.slice x k k) (cs.take k)]) H (.refl _ _) ?_ (fun b hb => .inl (by simpa [sliceO] using hsub b (by simpa [sliceO] using hb)))
  exact Has.cons (o := sliceO E 1 (.slice x k k) (cs.take k)) hnew (sfp_nodup (.slice x k k)) hnew.lt (by simp) (.nil _)
theorem keys_nodup {db bm : Nat} {size used born : Int} {l : Files} (H : (diskO db bm size used born l).holds w) : (keysOf l).Nodup := by
  have h1 : (filesM bm l).holds w := H _ (by simp)
  obtain ⟨es, _, _, h2, h3⟩ := h1
  have h4 := h3.keys
  have h5 : (l.map fun e => (e.1, (.pointer (some ⟨e.2.fb, 0, none⟩) : Value))).map (·.1) = es.map (·.1) := by rw [← h2, List.map_map]; rfl
  rw [List.map_map] at h5
  unfold keysOf
  rw [← h5] at h4
  exact h4
theorem keys_mem {l : Files} {s : ByteArray} : s ∈ keysOf l ↔ (aget l s).isSome = true := by
  cases hg : aget l s with
  | none =>
    have := aget_none.1 hg
    simp only [Option.isSome_none, Bool.false_eq_true, iff_false]
    intro h
    obtain ⟨e, he, rfl⟩ := List.mem_map.1 h
    exact this e he rfl
  | some f =>
    simp only [Option.isSome_some, iff_true]
    exact List.mem_map.2 ⟨(s, f), by
      have := (perm_aget (fun e : ByteArray × FileR => e) hg).mem_iff (a := (s, f))
      simpa using this, rfl⟩
theorem listed_nil (l : Files) : listed [] l = sortB (keysOf l) := by
  have : (l.map (·.1)).filter (want []) = l.map (·.1) := List.filter_eq_self.2 fun _ _ => rfl
  unfold listed
  rw [this]; rfl

/-- What a crash does to one file, behind how much it keeps. -/
theorem crash_rest {w1 : World} {db bm : Nat} {size used born : Int} {l : Files} {s : ByteArray} {f : FileR} {k : Nat} {K0 : World → Prop} {x : Int} (hx : x = (k : Int)) (hg : aget l s = some f) (hk : k ≤ f.bs.length)
    (hu : -1000000000000 ≤ used ∧ used ≤ 1000000000000) (hb : f.bs.length ≤ 1000000000000)
    (H : St w0 F w1 (diskO db bm size used born l :: L))
    (hK : ∀ w' f', f'.fb = f.fb → f'.bs = f.bs.take k → f'.syn = k → St w0 F w' (diskO db bm size (used - ((f.bs.length : Int) - k)) born (aput l s f') :: L) → K0 w') :
    LetW (World.drew w1) fun w_8 =>
    NN (some ⟨db, 0, none⟩) fun p10 =>
    LDI .i64 w_8 (Addr.add p10 1) fun v13 =>
    NN (some ⟨f.fb, 0, none⟩) fun p11 =>
    LDSl w_8 p11 fun _ v_n5 _ =>
    (w_8 = w_8 ∧
    NN (some ⟨db, 0, none⟩) fun p12 =>
    ST w_8 (Addr.add p12 1) (.int .i64 (IntKind.wrap .i64 (v13 - (IntKind.wrap .i64 ((v_n5 : Int) - x))))) fun w_9 =>
    NN (some ⟨f.fb, 0, none⟩) fun p13 =>
    LDSl w_9 p13 fun v15 v_n6 v_c6 =>
    rRun Try.prog (Instr.sliceAt 30 (.slice v15 v_n6 v_c6) none (some (.int .i64 x)) (some (.int .i64 x))) w_9 fun sr1 w_10 =>
    mSlice sr1 fun v16 v_n7 v_c7 =>
    NN (some ⟨f.fb, 0, none⟩) fun p14 =>
    ST w_10 p14 (.slice v16 v_n7 v_c7) fun w_11 =>
    NN (some ⟨f.fb, 0, none⟩) fun p15 =>
    ST w_11 (Addr.add p15 1) (.int .i64 x) fun w_12 =>
    K0 w_12) := by
  subst hx
  have H := H.diskOpen
  have H := file_out (H.front (filesO l)) hg
  obtain ⟨_, _, _, he, h1, h2, _⟩ := (H.has.all (sliceO 5 1 (.slice f.a f.n f.c) (bvals f.bs)) (by simp) : SliceAt _ 5 1 (.slice f.a f.n f.c) (bvals f.bs))
  cases he
  have hfn : f.n = f.bs.length := by simpa using h1
  repeat (first | refine nn ?_ | refine wI H (hK := ?_) | refine wP H (hK := ?_) | refine wM H (hK := ?_) | refine wSl H (hK := ?_) | refine wB H (hK := ?_) | refine wS H (hK := ?_) | refine wEq ?_ | refine wC H (hK := ?_) | (refine wLW H ?_; intro w1 H) | (refine wST H (hK := ?_); intro w1 H _) | refine mSlice_mk ?_ | refine mInt_mk ?_ | refine mBool_mk ?_ | refine mTup_mk ?_ | refine mCons_mk ?_ | refine mNil_mk ?_ | refine mAgg_mk ?_ | refine mPtr_mk ?_ | refine mStr_mk ?_)
  have hw2 : IntKind.wrap .i64 ((f.n : Int) - (k : Int)) = (f.bs.length : Int) - (k : Int) := by rw [hfn]; exact wrap_id (by omega) (by omega)
  have hw3 : IntKind.wrap .i64 (used - ((f.bs.length : Int) - (k : Int))) = used - ((f.bs.length : Int) - (k : Int)) := wrap_id (by omega) (by omega)
  rw [hw2, hw3] at H
  have ha : (if k = 0 then f.a else f.a.map (·.add (0 * 1))) = f.a := by
    split
    · rfl
    · cases f.a with
      | none => rfl
      | some a => simp [Addr.add]
  refine rRun_intro (sliceAt_run (P := Try.prog) elem_bytes (a := f.a) (len := f.n) (cap := f.c) (l := 0) (h := k) (m := k) (lo := none) (hi := some (.int .i64 k)) (mx := some (.int .i64 k)) ⟨rfl, by omega⟩ ⟨rfl, by omega⟩ (fun _ => rfl) rfl) ?_
  rw [ha]
  refine mSlice_mk ?_
  have H := (H.front (sliceO 5 1 (.slice f.a f.n f.c) (bvals f.bs))).cut (k := k) (by omega)
  have hbt : (bvals f.bs).take k = bvals (f.bs.take k) := by simp [bvals]
  rw [hbt] at H
  repeat (first | refine nn ?_ | refine wI H (hK := ?_) | refine wP H (hK := ?_) | refine wM H (hK := ?_) | refine wSl H (hK := ?_) | refine wB H (hK := ?_) | refine wS H (hK := ?_) | refine wEq ?_ | refine wC H (hK := ?_) | (refine wLW H ?_; intro w1 H) | (refine wST H (hK := ?_); intro w1 H _) | refine mSlice_mk ?_ | refine mInt_mk ?_ | refine mBool_mk ?_ | refine mTup_mk ?_ | refine mCons_mk ?_ | refine mNil_mk ?_ | refine mAgg_mk ?_ | refine mPtr_mk ?_ | refine mStr_mk ?_)
  have H := H.front (pt f.fb (.cells #[.slice f.a k k, .int .i64 (k : Int)] 71))
  have H := file_in (f := ⟨f.fb, f.a, k, k, f.bs.take k, k⟩) H
  have e : filesM bm l = filesM bm (aput l s ⟨f.fb, f.a, k, k, f.bs.take k, k⟩) := by
    unfold filesM
    congr 1
    have h2 := aput_map (fun f : FileR => (.pointer (some ⟨f.fb, 0, none⟩) : Value)) l s ⟨f.fb, f.a, k, k, f.bs.take k, k⟩
    rw [← h2]
    exact (aput_self (by rw [aget_map (fun f : FileR => (.pointer (some ⟨f.fb, 0, none⟩) : Value)), hg]; rfl)).symm
  rw [e] at H
  have H := ((H.front (filesM bm (aput l s ⟨f.fb, f.a, k, k, f.bs.take k, k⟩))).front (pt db (.cells #[.int .i64 size, .int .i64 (used - ((f.bs.length : Int) - k)), .int .i64 born, .map (some bm)] 67))).diskClose
  exact hK _ ⟨f.fb, f.a, k, k, f.bs.take k, k⟩ rfl rfl rfl H

/-- Behind i names. -/
structure Crashed (picks : List Int) (ns : List ByteArray) (i : Nat) (l l' : Files) : Prop where
  keys : keysOf l' = keysOf l
  done : ∀ j s, j < i → ns[j]? = some s → look l' s = (look l s).map (crashF picks[j]?)
  rest : ∀ s, (∀ j, j < i → ns[j]? ≠ some s) → look l' s = look l s
  less : total l' ≤ total l
theorem Crashed.whole {picks : List Int} {ns : List ByteArray} {l l' : Files} (h : Crashed picks ns ns.length l l') (hw : Proofs.Ytimgbkabfkdabaa.whole l) : Proofs.Ytimgbkabfkdabaa.whole l' := by
  intro s f hf
  have hl : look l' s = some (f.bs, f.syn) := by unfold look; rw [hf]; rfl
  by_cases hs : ∃ j, j < ns.length ∧ ns[j]? = some s
  · obtain ⟨j, hj, hjs⟩ := hs
    rw [h.done j s hj hjs] at hl
    unfold look at hl
    cases hg : aget l s with
    | none => rw [hg] at hl; cases hl
    | some g =>
      rw [hg] at hl
      simp only [Option.map_some, crashF, Option.some.injEq, Prod.mk.injEq] at hl
      have h1 := hw s g hg
      have h2 := pickK_le picks[j]? (g.bs.length - g.syn)
      rw [← hl.1, ← hl.2, List.length_take]
      omega
  · rw [h.rest s fun j hj hc => hs ⟨j, hj, hc⟩] at hl
    unfold look at hl
    cases hg : aget l s with
    | none => rw [hg] at hl; cases hl
    | some g =>
      rw [hg] at hl
      simp only [Option.map_some, Option.some.injEq, Prod.mk.injEq] at hl
      have h1 := hw s g hg
      rw [← hl.1, ← hl.2]
      exact h1

theorem Crash_spec {db bm : Nat} {size used born : Int} {l : Files} {pa : Option Addr} {pn pc : Nat} {picks : List Int} (hA : Has w [diskO db bm size used born l])
    (hp : Ext w [diskO db bm size used born l] 1 (.slice pa pn pc) (ints picks)) (hl : l.length ≤ 1000000000) (hwh : whole l) (hu : used = total l) (ht : total l ≤ 1000000000000) :
    CallS Try.prog fn_disk_Disk_Crash #[.pointer (some ⟨db, 0, none⟩), .slice pa pn pc] w [diskO db bm size used born l] fun r _ A =>
      r = .tuple #[] ∧ ∃ l', Crashed picks (sortB (keysOf l)) (sortB (keysOf l)).length l l' ∧ A = [diskO db bm size (total l') born l'] := by
  have hpn : pn = picks.length := by
    obtain ⟨⟨_, _, _, he, h1, _⟩, _⟩ := hp
    cases he
    simpa [ints] using h1
  subst hpn
  subst hu
  refine CallS_intro hA fun H => disk_Disk_Crash_sound _ _ _ _ _ _ ?_
  have hnd := keys_nodup (H.get (i := 0) rfl)
  have hrd : ∀ {w'} {L}, St w (fps [diskO db bm size (total l) born l]) w' L → Reads w' 1 (.slice pa picks.length pc) (ints picks) := fun H => hp.reads (by decide) H.fr
  refine wCall H (fun hA => List_spec (ps := []) hA ⟨⟨_, _, _, rfl, rfl, Nat.le_refl _, .inl rfl⟩, fun b hb => by simp [sblk] at hb⟩ (by simp) hl) (hK := ?_)
  rintro r w1 A' ⟨na, nn', nc, rfl, rfl⟩ _ H
  rw [listed_nil] at H
  have hns : (sortB (keysOf l)).Perm (keysOf l) := sortB_permOf _
  generalize hnse : sortB (keysOf l) = ns at H hns ⊢
  have hnn : nn' = ns.length := by
    obtain ⟨_, _, _, he, h1, _⟩ := (H.get (i := 0) rfl : SliceAt _ 9 1 _ _)
    cases he
    simpa [strs] using h1
  subst hnn
  have hnsd : ns.Nodup := hns.nodup_iff.2 hnd
  refine mSlice_mk ?_
  refine wLoop (fun k s w' => ∃ (i : Nat) (l' : Files), k + i = ns.length ∧ s = (some ⟨db, 0, none⟩, pa, picks.length, pc, na, ns.length, nc, (ns.length : Int), (i : Int)) ∧ Crashed picks ns i l l' ∧
    St w (fps [diskO db bm size (total l) born l]) w' [diskO db bm size (total l') born l', sliceO 9 1 (.slice na ns.length nc) (strs ns)]) ?_ ?_
  · exact ⟨ns.length, 0, l, by omega, rfl, ⟨rfl, fun j s hj _ => by omega, fun s _ => rfl, Nat.le_refl _⟩, H.front (diskO db bm size (total l) born l)⟩
  clear H
  rintro k s w1 ⟨i, l', hk, rfl, hcr, H⟩
  refine br (fun h => ?_) (fun h => ?_)
  · have hi : i < ns.length := by simp at h; omega
    obtain ⟨s, hs⟩ : ∃ s, ns[i]? = some s := ⟨_, List.getElem?_eq_getElem hi⟩
    have hw1 : IntKind.wrap .i64 ((i : Int) + 1) = ((i + 1 : Nat) : Int) := by
      have : ns.length ≤ 1000000000 := by have := hns.length_eq; simp [keysOf] at this; omega
      rw [wrap_id (by omega) (by omega)]; rfl
    refine wIXe (H.has.all (sliceO 9 1 (.slice na ns.length nc) (strs ns)) (by simp)) (by simpa [strs] using hi) rfl fun ab _ hcell => ?_
    refine ldS (hcell.trans (show (strs ns)[i]? = some (.string s) by simp [strs, hs])) ?_
    have Hd := H.diskOpen
    refine nn ?_
    refine wM Hd (hK := ?_)
    have hsk : s ∈ keysOf l' := by rw [hcr.keys]; exact hns.mem_iff.1 (List.mem_of_getElem? hs)
    obtain ⟨f, hg⟩ := Option.isSome_iff_exists.1 (keys_mem.1 hsk)
    have hnot : ∀ j, j < i → ns[j]? ≠ some s := fun j hj hc => by
      have := (List.getElem?_inj (by omega) hnsd).1 (hc.trans hs.symm)
      omega
    have hlook : look l s = some (f.bs, f.syn) := by rw [← hcr.rest s hnot]; unfold look; rw [hg]; rfl
    have hsyn : f.syn ≤ f.bs.length := by
      unfold look at hlook
      cases hgl : aget l s with
      | none => rw [hgl] at hlook; cases hlook
      | some g =>
        rw [hgl] at hlook
        simp only [Option.map_some, Option.some.injEq, Prod.mk.injEq] at hlook
        have := hwh s g hgl
        rw [hlook.1, hlook.2] at this
        exact this
    have htl := total_adel hg
    have hless := hcr.less
    refine wLookupF Hd (hK := mPtr_mk ?_)
    rw [hg]
    have opn : ∀ {w'}, St w (fps [diskO db bm size (total l) born l]) w' [diskO db bm size (total l') born l', sliceO 9 1 (.slice na ns.length nc) (strs ns)] →
        St w (fps [diskO db bm size (total l) born l]) w' (pt f.fb (.cells #[.slice f.a f.n f.c, .int .i64 f.syn] 71) :: sliceO 5 1 (.slice f.a f.n f.c) (bvals f.bs) :: filesO (adel l' s) ::
          [pt db (.cells #[.int .i64 size, .int .i64 (total l'), .int .i64 born, .map (some bm)] 67), filesM bm l', sliceO 9 1 (.slice na ns.length nc) (strs ns)]) := fun H => file_out (H.diskOpen.front (filesO l')) hg
    have Hf := opn H
    refine nn ?_
    refine wI Hf (hK := ?_)
    -- one more name is done
    have done : ∀ w' f', f'.fb = f.fb → f'.bs = f.bs.take (f.syn + pickK picks[i]? (f.bs.length - f.syn)) → f'.syn = f.syn + pickK picks[i]? (f.bs.length - f.syn) →
        St w (fps [diskO db bm size (total l) born l]) w' (diskO db bm size ((total l' : Int) - ((f.bs.length : Int) - ((f.syn + pickK picks[i]? (f.bs.length - f.syn) : Nat) : Int))) born (aput l' s f') :: [sliceO 9 1 (.slice na ns.length nc) (strs ns)]) →
        ∃ k', k' < k ∧ ∃ (i' : Nat) (l' : Files), k' + i' = ns.length ∧ ((some ⟨db, 0, none⟩, pa, picks.length, pc, na, ns.length, nc, (ns.length : Int), IntKind.wrap .i64 ((i : Int) + 1)) : (Option Addr) × (Option Addr) × Nat × Nat × (Option Addr) × Nat × Nat × Int × Int) = (some ⟨db, 0, none⟩, pa, picks.length, pc, na, ns.length, nc, (ns.length : Int), (i' : Int)) ∧ Crashed picks ns i' l l' ∧
          St w (fps [diskO db bm size (total l) born l]) w' [diskO db bm size (total l') born l', sliceO 9 1 (.slice na ns.length nc) (strs ns)] := by
      intro w' f' h1 h2 h3 H
      have hple := pickK_le picks[i]? (f.bs.length - f.syn)
      have hta := total_aput (l := l') (s := s) f'
      have hfl : f'.bs.length = f.syn + pickK picks[i]? (f.bs.length - f.syn) := by rw [h2, List.length_take]; omega
      have hteq : ((total l' : Int) - ((f.bs.length : Int) - ((f.syn + pickK picks[i]? (f.bs.length - f.syn) : Nat) : Int))) = (total (aput l' s f') : Int) := by omega
      rw [hteq] at H
      refine ⟨k - 1, by omega, i + 1, aput l' s f', by omega, by rw [hw1], ⟨?_, ?_, ?_, ?_⟩, H⟩
      · unfold keysOf
        rw [aput_keys f' hg]
        exact hcr.keys
      · intro j t hj ht
        by_cases hji : j = i
        · subst hji
          rw [hs] at ht
          cases ht
          rw [look_aput, hlook, h2, h3]
          rfl
        · have hts : t ≠ s := fun e => by subst e; exact hnot j (by omega) ht
          rw [look_aput_ne _ _ hts]
          exact hcr.done j t (by omega) ht
      · intro t ht
        have hts : t ≠ s := fun e => by subst e; exact ht i (by omega) hs
        rw [look_aput_ne _ _ hts]
        exact hcr.rest t fun j hj => ht j (by omega)
      · omega
    have hple := pickK_le picks[i]? (f.bs.length - f.syn)
    refine br (fun hip => ?_) (fun hip => ?_)
    · have hip : i < picks.length := by simpa using hip
      obtain ⟨p, hpi⟩ : ∃ p, picks[i]? = some p := ⟨_, List.getElem?_eq_getElem hip⟩
      have hcell : (ints picks)[i]? = some (.int .i64 p) := by simp [ints, hpi]
      refine wIXr (hrd H) (i := i) (by simpa [ints] using hip) rfl fun ad had => ?_
      refine ldI (had.trans hcell) ?_
      refine br (fun hp0 => ?_) (fun hp0 => ?_)
      · have hp0 : 0 ≤ p := by simpa using hp0
        refine wLW H ?_
        intro w2 H
        refine wIXr (hrd H) (i := i) (by simpa [ints] using hip) rfl fun ad had => ?_
        refine ldI (had.trans hcell) ?_
        have Hf := opn H
        have hfn : f.n = f.bs.length := by
          obtain ⟨_, _, _, he, h1, _⟩ := (Hf.has.all (sliceO 5 1 (.slice f.a f.n f.c) (bvals f.bs)) (by simp) : SliceAt _ 5 1 (.slice f.a f.n f.c) (bvals f.bs))
          cases he
          simpa using h1
        refine nn ?_
        refine wSl Hf (hK := wEq ?_)
        refine nn ?_
        refine wI Hf (hK := ?_)
        have e1 : IntKind.wrap .i64 (IntKind.wrap .i64 ((f.n : Int) - (f.syn : Int)) + 1) = ((f.bs.length - f.syn : Nat) : Int) + 1 := by
          have e0 : IntKind.wrap .i64 ((f.n : Int) - (f.syn : Int)) = ((f.bs.length - f.syn : Nat) : Int) := by rw [hfn, wrap_id (by omega) (by omega)]; omega
          rw [e0, wrap_id (by omega) (by omega)]
        rw [e1]
        refine wReq (by omega) ?_
        have e2 : Int.tmod p (((f.bs.length - f.syn : Nat) : Int) + 1) = (pickK picks[i]? (f.bs.length - f.syn) : Int) := by
          rw [hpi]
          unfold pickK
          simp only [hp0, if_true]
          rw [Int.tmod_eq_emod_of_nonneg hp0]
          have := Int.emod_nonneg p (show (((f.bs.length - f.syn : Nat) : Int) + 1) ≠ 0 by omega)
          omega
        have e3 : IntKind.wrap .i64 ((f.syn : Int) + Int.tmod p (((f.bs.length - f.syn : Nat) : Int) + 1)) = ((f.syn + pickK picks[i]? (f.bs.length - f.syn) : Nat) : Int) := by
          rw [e2, wrap_id (by omega) (by omega)]; omega
        exact crash_rest e3 hg (by omega) (by omega) (by omega) H done
      · have hp0 : ¬ 0 ≤ p := by simpa using hp0
        have e2 : pickK picks[i]? (f.bs.length - f.syn) = 0 := by rw [hpi]; unfold pickK; simp only [hp0, if_false]
        exact crash_rest (by rw [e2]; rfl) hg (by omega) (by omega) (by omega) H done
    · have hip : ¬ i < picks.length := by simpa using hip
      have e2 : pickK picks[i]? (f.bs.length - f.syn) = 0 := by rw [List.getElem?_eq_none (by omega)]; rfl
      exact crash_rest (by rw [e2]; rfl) hg (by omega) (by omega) (by omega) H done
  · have hi : ns.length ≤ i := by simp at h; omega
    have hin : i = ns.length := by omega
    subst hin
    exact ⟨_, ⟨rfl, l', hcr, rfl⟩, H.left (L := [_])⟩
end
end Go.Proofs.Ytimgbkabfkdabaa
