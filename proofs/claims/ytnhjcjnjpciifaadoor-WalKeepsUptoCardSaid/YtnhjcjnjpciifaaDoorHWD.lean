/- WD WE WF, laid together. -/
import Derived.Test.YtnhjcjnjpciifaaDoorHWA
/- A log's methods: Truncate, First. -/
namespace Go.Proofs.YtnhjcjnjpciifaaDoor
open Go.Sh
theorem seg_pre (nm : List UInt8) (k : Nat) : hasPre (seg nm k) (preOf nm) = true := by
  unfold hasPre seg preOf
  rw [bstr_letters, bstr_letters, List.isPrefixOf_iff_prefix]
  exact ⟨dig6 k, by simp [segL]⟩
theorem seg_listed {nm : List UInt8} {l : Files} {ks : List Nat} (hks : ∀ k ∈ ks, k < 1000000) (he : ks.map (seg nm) = listed [preOf nm] l) {k : Nat} (hk : k < 1000000) : k ∈ ks ↔ (look l (seg nm k)).isSome = true := by
  have h1 : seg nm k ∈ listed [preOf nm] l ↔ (look l (seg nm k)).isSome = true := by
    rw [listed_mem, want_one, keys_mem]
    have : (look l (seg nm k)).isSome = (aget l (seg nm k)).isSome := by unfold look; simp
    rw [this]
    exact ⟨fun h => h.1, fun h => ⟨h, seg_pre nm k⟩⟩
  rw [← h1, ← he, List.mem_map]
  constructor
  · exact fun h => ⟨k, h, rfl⟩
  · rintro ⟨q, hq, e⟩
    rw [← seg_inj (hks q hq) hk e]; exact hq
theorem sortB_sorted (ns : List ByteArray) : ((sortB ns).map lettersOf).Pairwise (· ≤ ·) := by
  have tr : ∀ a b c : List UInt8, (decide (a ≤ b)) = true → (decide (b ≤ c)) = true → (decide (a ≤ c)) = true := fun a b c h1 h2 => by
    simp only [decide_eq_true_eq] at *; exact List.le_trans h1 h2
  have tt : ∀ a b : List UInt8, (decide (a ≤ b) || decide (b ≤ a)) = true := fun a b => by
    simp only [Bool.or_eq_true, decide_eq_true_eq]; exact List.le_total a b
  have h := List.pairwise_mergeSort tr tt (ns.map lettersOf)
  have e : (sortB ns).map lettersOf = (ns.map lettersOf).mergeSort fun x y => decide (x ≤ y) := by
    unfold sortB
    rw [List.map_map]
    conv => rhs; rw [← List.map_id ((ns.map lettersOf).mergeSort fun x y => decide (x ≤ y))]
    apply List.map_congr_left
    intro x _
    simp
  rw [e]
  exact h.imp fun h => of_decide_eq_true h
theorem segL_le {nm : List UInt8} : ∀ {x y : List UInt8}, x ≤ y → nm ++ 45 :: x ≤ nm ++ 45 :: y := by
  induction nm with
  | nil => intro x y h; rw [List.nil_append, List.nil_append, List.cons_le_cons_iff]; exact .inr ⟨rfl, h⟩
  | cons c t ih => intro x y h; rw [List.cons_append, List.cons_append, List.cons_le_cons_iff]; exact .inr ⟨rfl, ih h⟩
theorem ks_sorted {nm : List UInt8} {l : Files} {ks : List Nat} (hks : ∀ k ∈ ks, k < 1000000) (he : ks.map (seg nm) = listed [preOf nm] l) : ks.Pairwise (· ≤ ·) := by
  have h := sortB_sorted ((l.map (·.1)).filter (want [preOf nm]))
  have h2 : (ks.map (seg nm)).map lettersOf = ks.map (segL nm) := by
    rw [List.map_map]; apply List.map_congr_left; intro k _; simp [seg, bstr_letters]
  rw [show sortB ((l.map (·.1)).filter (want [preOf nm])) = listed [preOf nm] l from rfl, ← he, h2, List.pairwise_map] at h
  refine List.Pairwise.imp_of_mem ?_ h
  intro a b ha hb hab
  rcases Nat.lt_or_ge b a with hlt | hge
  · exfalso
    have h3 : segL nm b ≤ segL nm a := segL_le (dig6_le (by omega) (hks a ha))
    have h4 := List.le_antisymm hab h3
    have h5 := seg_inj (name := nm) (hks a ha) (hks b hb) (by unfold seg; rw [h4])
    omega
  · exact hge
attribute [local irreducible] rRun LDI LDB LDS LDP LDSl LDM LD Go.Sh.ST AL ALM LetW CallR CallV CallI NN IX SIX Br Req mInt mBool mStr mPtr mSlice mMap mAgg mTup mCons mNil mNth mPA LoopS
section
variable {w0 w : World} {F : List Nat} {L : List Own} {K : Value → World → Prop} {db bm p last : Nat} {size born : Int} {l : Files} {nm : List UInt8} {o : Obj}
theorem log_first_walk {f : Nat} (hf6 : f < 1000000) (hnl : nm.length ≤ 1000) (H : St w0 F w (dO db bm size born l :: L)) (hlog : List.Mem (logO p db nm last) L) (ht : List.Mem (tabO o) L) (hl : l.length ≤ 1000000)
    (hnames : ∀ s, s ∈ keysOf l → hasPre s (preOf nm) = true → ∃ k, k < 1000000 ∧ s = seg nm k)
    (hf : (look l (seg nm f)).isSome = true) (hlow : ∀ k, k < 1000000 → (look l (seg nm k)).isSome = true → f ≤ k)
    (hK : ∀ w', St w0 F w' (dO db bm size born l :: L) → K (.int .i64 (f : Int)) w') :
    CallR Tryd.prog fn_wal_Log_First #[.pointer (some ⟨p, 0, none⟩)] w K := by
  refine wal_Log_First_sound _ _ _ ?_
  refine segments_walk hnl H hlog ht hl hnames fun w1 a n c ks hks he H => mSlice_mk ?_
  have hmem := (seg_listed hks he hf6).2 hf
  have hs := ks_sorted hks he
  cases ks with
  | nil => cases hmem
  | cons k t =>
    have hk : k = f := by
      have h1 := hlow k (hks k (List.mem_cons_self ..)) ((seg_listed hks he (hks k (List.mem_cons_self ..))).1 (List.mem_cons_self ..))
      rcases List.mem_cons.1 hmem with h | h
      · exact h.symm
      · have := (List.pairwise_cons.1 hs).1 f h
        omega
    subst hk
    refine wIXr (H.get (i := 0) rfl : SliceAt w1 3 1 (.slice a n c) _).reads (i := 0) (by simp [nats]) rfl fun ad had => ?_
    exact ldI had (hK w1 H.tail)
theorem log_truncate_walk {below : Nat} (hb : below ≤ last) (hlast : last < 1000000) (hnm : nmOk nm) (H : St w0 F w (dO db bm size born l :: L)) (htl : total l ≤ 5000000000) (hlog : List.Mem (logO p db nm last) L) (ht : List.Mem (tabO o) L) (hl : l.length ≤ 1000000)
    (hnames : ∀ s, s ∈ keysOf l → hasPre s (preOf nm) = true → ∃ k, k < 1000000 ∧ s = seg nm k)
    (hK : ∀ w' l', (∀ s, (∀ k, k < below → s ≠ seg nm k) → look l' s = look l s) → (∀ k, k < below → look l' (seg nm k) = none) → total l' ≤ total l → l'.length ≤ l.length → St w0 F w' (dO db bm size born l' :: L) → K (.int .i64 0) w') :
    CallR Tryd.prog fn_wal_Log_Truncate #[.pointer (some ⟨p, 0, none⟩), .int .i64 (below : Int)] w K := by
  have hnl := hnm.2
  refine wal_Log_Truncate_sound _ _ _ _ ?_
  repeat (first | apply mInt_mk | apply mCons_mk | (apply xC H; rfl; (focus (repeat (first | exact List.Mem.head _ | apply List.Mem.tail | assumption))); rfl) | apply mStr_mk | apply mNil_mk | apply mSlice_mk | (apply xI H; rfl; (focus (repeat (first | exact List.Mem.head _ | apply List.Mem.tail | assumption))); rfl) | (apply xST H; rfl; (focus (repeat (first | exact Upd.here _ | apply Upd.there))); (focus (repeat (first | exact SetAt.zero _ _ | apply SetAt.succ))); rfl; intro w1 H) | (apply xSl H; rfl; (focus (repeat (first | exact List.Mem.head _ | apply List.Mem.tail | assumption))); rfl) | (apply xP H; rfl; (focus (repeat (first | exact List.Mem.head _ | apply List.Mem.tail | assumption))); rfl) | (apply xS H; rfl; (focus (repeat (first | exact List.Mem.head _ | apply List.Mem.tail | assumption))); rfl) | apply nn | (apply wLW H; intro w1 H) | apply mTup_mk | apply mAgg_mk | apply mPtr_mk | apply mBool_mk | (apply xM H; rfl; (focus (repeat (first | exact List.Mem.head _ | apply List.Mem.tail | assumption))); rfl) | (apply xB H; rfl; (focus (repeat (first | exact List.Mem.head _ | apply List.Mem.tail | assumption))); rfl) | apply wEq)
  refine brF (by simp; omega) ?_
  refine segments_walk (by omega) H hlog ht hl hnames fun w1 a n c ks hks he H => mSlice_mk ?_
  have hn : n = ks.length := by
    have := (H.get (i := 0) rfl : SliceAt w1 3 1 (.slice a n c) _).len
    simpa [nats] using this
  subst hn
  have hkn : ks.length ≤ 1000000 := by
    have h1 := listed_len [preOf nm] l
    rw [← he, List.length_map] at h1
    omega
  refine wLoop (fun k s w' => ∃ (i : Nat) (l' : Files), k + i = ks.length ∧ s = (some ⟨p, 0, none⟩, (below : Int), a, ks.length, c, (ks.length : Int), (i : Int)) ∧
    (∀ s, (∀ k, k < below → s ≠ seg nm k) → look l' s = look l s) ∧ (∀ k, k < 1000000 → (look l' (seg nm k)).isSome = true → (look l (seg nm k)).isSome = true) ∧ (∀ j q, j < i → ks[j]? = some q → q < below → look l' (seg nm q) = none) ∧ total l' ≤ total l ∧ l'.length ≤ l.length ∧
    St w0 F w' (sliceO 3 1 (.slice a ks.length c) (nats ks) :: dO db bm size born l' :: L)) ⟨ks.length, 0, l, rfl, rfl, fun _ _ => rfl, fun _ _ h => h, fun _ _ h => by omega, Nat.le_refl _, Nat.le_refl _, H⟩ ?_
  clear H
  rintro k s w2 ⟨i, l1, hk, rfl, h1, h2, h3, h4, h5, H⟩
  refine br (fun h => ?_) (fun h => ?_)
  · have hi : i < ks.length := by simp at h; omega
    obtain ⟨q, hq⟩ : ∃ q, ks[i]? = some q := ⟨_, List.getElem?_eq_getElem hi⟩
    have hq6 := hks q (List.mem_of_getElem? hq)
    have hwi : IntKind.wrap .i64 ((i : Int) + 1) = ((i + 1 : Nat) : Int) := by rw [wrap_id (by omega) (by omega)]; rfl
    refine wIXr (H.get (i := 0) rfl : SliceAt w2 3 1 (.slice a ks.length c) _).reads (i := i) (by simpa [nats] using hi) rfl fun ad had => ?_
    rw [nats, List.getElem?_map, hq] at had
    refine ldI had ?_
    refine br (fun hlt => ?_) (fun hge => ?_)
    · have hlt : q < below := by simp at hlt; omega
      refine wLW H ?_
      intro w3 H
      repeat (first | apply mInt_mk | apply mCons_mk | (apply xC H; rfl; (focus (repeat (first | exact List.Mem.head _ | apply List.Mem.tail | assumption))); rfl) | apply mStr_mk | apply mNil_mk | apply mSlice_mk | (apply xI H; rfl; (focus (repeat (first | exact List.Mem.head _ | apply List.Mem.tail | assumption))); rfl) | (apply xST H; rfl; (focus (repeat (first | exact Upd.here _ | apply Upd.there))); (focus (repeat (first | exact SetAt.zero _ _ | apply SetAt.succ))); rfl; intro w1 H) | (apply xSl H; rfl; (focus (repeat (first | exact List.Mem.head _ | apply List.Mem.tail | assumption))); rfl) | (apply xP H; rfl; (focus (repeat (first | exact List.Mem.head _ | apply List.Mem.tail | assumption))); rfl) | (apply xS H; rfl; (focus (repeat (first | exact List.Mem.head _ | apply List.Mem.tail | assumption))); rfl) | apply nn | (apply wLW H; intro w1 H) | apply mTup_mk | apply mAgg_mk | apply mPtr_mk | apply mBool_mk | (apply xM H; rfl; (focus (repeat (first | exact List.Mem.head _ | apply List.Mem.tail | assumption))); rfl) | (apply xB H; rfl; (focus (repeat (first | exact List.Mem.head _ | apply List.Mem.tail | assumption))); rfl) | apply wEq)
      refine Segment_walk hq6 (by omega) H (.tail _ (.tail _ ht)) fun w4 H => mStr_mk ?_
      repeat (first | apply mInt_mk | apply mCons_mk | (apply xC H; rfl; (focus (repeat (first | exact List.Mem.head _ | apply List.Mem.tail | assumption))); rfl) | apply mStr_mk | apply mNil_mk | apply mSlice_mk | (apply xI H; rfl; (focus (repeat (first | exact List.Mem.head _ | apply List.Mem.tail | assumption))); rfl) | (apply xST H; rfl; (focus (repeat (first | exact Upd.here _ | apply Upd.there))); (focus (repeat (first | exact SetAt.zero _ _ | apply SetAt.succ))); rfl; intro w1 H) | (apply xSl H; rfl; (focus (repeat (first | exact List.Mem.head _ | apply List.Mem.tail | assumption))); rfl) | (apply xP H; rfl; (focus (repeat (first | exact List.Mem.head _ | apply List.Mem.tail | assumption))); rfl) | (apply xS H; rfl; (focus (repeat (first | exact List.Mem.head _ | apply List.Mem.tail | assumption))); rfl) | apply nn | (apply wLW H; intro w1 H) | apply mTup_mk | apply mAgg_mk | apply mPtr_mk | apply mBool_mk | (apply xM H; rfl; (focus (repeat (first | exact List.Mem.head _ | apply List.Mem.tail | assumption))); rfl) | (apply xB H; rfl; (focus (repeat (first | exact List.Mem.head _ | apply List.Mem.tail | assumption))); rfl) | apply wEq)
      refine wAL H fun b w5 H => ?_
      repeat (first | apply mInt_mk | apply mCons_mk | (apply xC H; rfl; (focus (repeat (first | exact List.Mem.head _ | apply List.Mem.tail | assumption))); rfl) | apply mStr_mk | apply mNil_mk | apply mSlice_mk | (apply xI H; rfl; (focus (repeat (first | exact List.Mem.head _ | apply List.Mem.tail | assumption))); rfl) | (apply xST H; rfl; (focus (repeat (first | exact Upd.here _ | apply Upd.there))); (focus (repeat (first | exact SetAt.zero _ _ | apply SetAt.succ))); rfl; intro w1 H) | (apply xSl H; rfl; (focus (repeat (first | exact List.Mem.head _ | apply List.Mem.tail | assumption))); rfl) | (apply xP H; rfl; (focus (repeat (first | exact List.Mem.head _ | apply List.Mem.tail | assumption))); rfl) | (apply xS H; rfl; (focus (repeat (first | exact List.Mem.head _ | apply List.Mem.tail | assumption))); rfl) | apply nn | (apply wLW H; intro w1 H) | apply mTup_mk | apply mAgg_mk | apply mPtr_mk | apply mBool_mk | (apply xM H; rfl; (focus (repeat (first | exact List.Mem.head _ | apply List.Mem.tail | assumption))); rfl) | (apply xB H; rfl; (focus (repeat (first | exact List.Mem.head _ | apply List.Mem.tail | assumption))); rfl) | apply wEq)
      have fin : ∀ w6 l2, (look l2 = upd (look l1) (seg nm q) none) → total l2 ≤ total l1 → l2.length ≤ l1.length → St w0 F w6 (dO db bm size born l2 :: pt b (.cells #[.string (seg nm q)] 9) :: sliceO 3 1 (.slice a ks.length c) (nats ks) :: L) →
          ∃ k', k' < k ∧ ∃ (i' : Nat) (l' : Files), k' + i' = ks.length ∧ (some (⟨p, 0, none⟩ : Addr), (below : Int), a, ks.length, c, (ks.length : Int), IntKind.wrap .i64 ((i : Int) + 1)) = (some ⟨p, 0, none⟩, (below : Int), a, ks.length, c, (ks.length : Int), (i' : Int)) ∧
          (∀ s, (∀ k, k < below → s ≠ seg nm k) → look l' s = look l s) ∧ (∀ k, k < 1000000 → (look l' (seg nm k)).isSome = true → (look l (seg nm k)).isSome = true) ∧ (∀ j q, j < i' → ks[j]? = some q → q < below → look l' (seg nm q) = none) ∧ total l' ≤ total l ∧ l'.length ≤ l.length ∧
          St w0 F w6 (sliceO 3 1 (.slice a ks.length c) (nats ks) :: dO db bm size born l' :: L) := by
        intro w6 l2 hl2 ht2 hn2 H
        refine ⟨k - 1, by omega, i + 1, l2, by omega, by rw [hwi], fun s hs => ?_, fun m hm hs => ?_, fun j m hj hm hmb => ?_, by omega, by omega, ?_⟩
        · rw [hl2, upd_ne _ _ (hs q hlt)]; exact h1 s hs
        · rw [hl2] at hs
          by_cases hmq : seg nm m = seg nm q
          · rw [hmq, upd_same] at hs; cases hs
          · rw [upd_ne _ _ hmq] at hs; exact h2 m hm hs
        · rw [hl2]
          by_cases hmq : seg nm m = seg nm q
          · rw [hmq, upd_same]
          · rw [upd_ne _ _ hmq]
            refine h3 j m ?_ hm hmb
            rcases Nat.lt_or_ge j i with h | h
            · exact h
            · have : j = i := by omega
              subst this
              rw [hq] at hm
              exact absurd (congrArg (seg nm) (Option.some.inj hm).symm) hmq
        · exact ((H.front (pt b (.cells #[.string (seg nm q)] 9))).tail).front (sliceO 3 1 (.slice a ks.length c) (nats ks))
      have H := H.front (dO db bm size born l1)
      refine delete_walk rfl H (by omega) (.head _) (fun hno w6 H => mInt_mk ?_) (fun x hx w6 l2 hl2 ht2 hn2 H => mInt_mk ?_) rfl
      · exact fin w6 l1 (upd_self hno).symm (Nat.le_refl _) (Nat.le_refl _) H
      · exact fin w6 l2 hl2 (by omega) (by omega) H
    · have hge : below ≤ q := by simp at hge; omega
      refine ⟨k - 1, by omega, i + 1, l1, by omega, by rw [hwi], h1, h2, fun j m hj hm hmb => ?_, h4, h5, H⟩
      rcases Nat.lt_or_ge j i with h | h
      · exact h3 j m h hm hmb
      · have : j = i := by omega
        subst this
        rw [hq] at hm
        have := Option.some.inj hm
        omega
  · have hi : ks.length ≤ i := by simp at h; omega
    refine hK w2 l1 h1 (fun m hm => ?_) h4 h5 H.tail
    cases hg : look l1 (seg nm m) with
    | none => rfl
    | some x =>
      have hm6 : m < 1000000 := by omega
      have h6 := h2 m hm6 (by rw [hg]; rfl)
      have h7 := (seg_listed hks he hm6).2 h6
      obtain ⟨j, hj⟩ := List.mem_iff_getElem?.1 h7
      have h8 := h3 j m (by have := (List.getElem?_eq_some_iff.1 hj).1; omega) hj hm
      rw [hg] at h8; cases h8
end
end Go.Proofs.YtnhjcjnjpciifaaDoor

/- A log opened. -/
namespace Go.Proofs.YtnhjcjnjpciifaaDoor
open Go.Sh
abbrev rdF (b : Bytes) : List Bytes × Nat × Nat := readFs crc b.length b
/-- What stays of a segment's bytes when it is opened. -/
def kept (b : Bytes) : Bytes := if (rdF b).2.2 = 0 then b else b.take (rdF b).2.1
theorem rdF_le (b : Bytes) : (rdF b).2.1 ≤ b.length := by
  have : ∀ (k : Nat) (b : Bytes), (readFs crc k b).2.1 ≤ b.length := by
    intro k
    induction k with
    | zero => intro b; simp [readFs]
    | succ k ih =>
      intro b
      simp only [readFs]
      split
      · simp
      · split
        · simp
        · have h1 := ih (b.drop (readFr crc b).2.1)
          have h2 := readFr_le (crc := crc) b
          rw [List.length_drop] at h1
          simp only
          omega
  exact this _ b
theorem kept_len (b : Bytes) : (kept b).length ≤ b.length := by
  unfold kept; split
  · exact Nat.le_refl _
  · simp; omega
/-- The payloads of the segments from f on, up to and without n. -/
def loads (c : Nat → Bytes) (f n : Nat) : List Bytes := (List.range' f (n - f)).flatMap fun k => (rdF (c k)).1
theorem loads_nil (c : Nat → Bytes) (f : Nat) : loads c f f = [] := by simp [loads]
theorem loads_snoc (c : Nat → Bytes) {f n : Nat} (h : f ≤ n) : loads c f (n + 1) = loads c f n ++ (rdF (c n)).1 := by
  unfold loads
  rw [show n + 1 - f = (n - f) + 1 by omega, List.range'_1_concat, List.flatMap_append]
  simp [show f + (n - f) = n by omega]
theorem named_ok {nm : List UInt8} : nmOk nm → True := fun _ => trivial
attribute [local irreducible] rRun LDI LDB LDS LDP LDSl LDM LD Go.Sh.ST AL ALM LetW CallR CallV CallI NN IX SIX Br Req mInt mBool mStr mPtr mSlice mMap mAgg mTup mCons mNil mNth mPA LoopS
section
variable {w0 w : World} {F : List Nat} {L : List Own} {K : Value → World → Prop} {db bm p last : Nat} {size born : Int} {l : Files} {nm : List UInt8} {o : Obj}
theorem named_walk (hne : 1 ≤ nm.length) (hnl : nm.length ≤ 32) (hnm : ∀ c ∈ nm, 97 ≤ c.toNat ∧ c.toNat ≤ 122) (H : St w0 F w L) (hK : ∀ w', St w0 F w' L → K (.bool true) w') : CallR Tryd.prog fn_wal_named #[.string (bstr nm)] w K := by
  refine wal_named_sound _ _ _ ?_
  have hs : (bstr nm).size = nm.length := bstr_size nm
  refine brF (by simp [hs]; omega) (brF (by simp [hs]; omega) ?_)
  unfold wal_named_b3
  rw [hs]
  refine wLoop (fun k s w' => ∃ i : Nat, k + i = nm.length ∧ s = (bstr nm, (nm.length : Int), (i : Int)) ∧ St w0 F w' L) ⟨nm.length, 0, rfl, rfl, H⟩ ?_
  clear H
  rintro k s w1 ⟨i, hk, rfl, H⟩
  refine br (fun h => ?_) (fun h => hK w1 H)
  have hi : i < nm.length := by simp at h; omega
  obtain ⟨x, hx⟩ : ∃ x, nm[i]? = some x := ⟨_, List.getElem?_eq_getElem hi⟩
  have hx2 := hnm x (List.mem_of_getElem? hx)
  have hwi : IntKind.wrap .i64 ((i : Int) + 1) = ((i + 1 : Nat) : Int) := by rw [wrap_id (by omega) (by omega)]; rfl
  refine wSIX (i := i) (c := x) (by simpa [bstr] using hx) rfl ?_
  refine brT (by simp; omega) (brT (by simp; omega) (brF rfl ?_))
  exact ⟨k - 1, by omega, i + 1, by omega, by rw [hwi], H⟩
theorem Ext.sub0 {A : List Own} {a : Option Addr} {n c h : Nat} {bs : Bytes} (he : Ext w A 1 (.slice a n c) (bvals bs)) (hh : h ≤ n) : Ext w A 1 (.slice a h c) (bvals (bs.take h)) := by
  obtain ⟨hr, hb⟩ := he
  obtain ⟨_, _, _, e, h1, h2, h3⟩ := hr
  cases e
  refine ⟨⟨_, _, _, rfl, by simp at h1 ⊢; omega, by omega, ?_⟩, fun b hb' => hb b ?_⟩
  · rcases h3 with h3 | ⟨ad, rfl, h4⟩
    · exact .inl (by omega)
    · refine .inr ⟨ad, rfl, fun j hj => ?_⟩
      have hj2 : j < bs.length ∧ j < h := by simp at hj; omega
      rw [h4 j (by simpa using hj2.1)]
      simp [bvals, hj2.2]
  · cases a with
    | none => simp [sblk] at hb'
    | some ad =>
      cases h with
      | zero => simp [sblk] at hb'
      | succ h =>
        obtain ⟨q, rfl⟩ : ∃ q, n = q + 1 := ⟨n - 1, by omega⟩
        simpa [sblk] using hb'
theorem head_walk {a : Option Addr} {n c h : Nat} {bs : Bytes} (hr : Reads w 1 (.slice a n c) (bvals bs)) (hh : h ≤ bs.length) (hK : K (.slice a h c) w) :
    rRun Tryd.prog (Instr.sliceAt 41 (.slice a n c) none (some (.int .i64 (h : Int))) none) w K := by
  have hn : n = bs.length := by simpa using hr.len
  obtain ⟨_, _, _, he, h1, h2, h3⟩ := id hr
  cases he
  have ha : (if c = 0 then a else a.map (·.add (0 * 1))) = a := by
    split
    · rfl
    · cases a with
      | none => rfl
      | some a => simp [Addr.add]
  refine rRun_intro (sliceAt_run (P := Tryd.prog) elem_bytes (a := a) (len := n) (cap := c) (l := 0) (h := h) (m := c) (lo := none) (hi := some (.int .i64 h)) (mx := none) rfl ⟨rfl, by omega⟩ (fun h => by cases h) rfl) ?_
  rw [ha]
  exact hK
theorem parts_join {a a2 : Option Addr} {n c n2 c2 : Nat} {ps qs : List PartR} (hl : ps.length + qs.length ≤ 1000000000) (H : St w0 F w (partsO (.slice a n c) ps :: partsO (.slice a2 n2 c2) qs :: L))
    (hK : ∀ w' a' n' c', St w0 F w' (partsO (.slice a' n' c') (ps ++ qs) :: L) → K (.slice a' n' c') w') :
    rRun Tryd.prog (Builtin.append_ #[40, 40] 40 #[.slice a n c, .slice a2 n2 c2]) w K := by
  have hr := (parts_reads (H.get (i := 1) rfl : (partsO (.slice a2 n2 c2) qs).holds w)).1
  have H := Sh.St.open (M := sliceO 41 1 (.slice a n c) (ps.map PartR.hdr) :: ps.map partO) H
  obtain ⟨m, _, hsrc⟩ := hr.src (P := Tryd.prog) (tx := 40) elem_bytess.under (by intro u hu; obtain ⟨q, _, rfl⟩ := List.mem_map.1 hu; rfl)
  refine append_own (t := 40) (n := m) elem_bytess (i := 0) H rfl hsrc (by simp; omega) (by decide) fun v' w3 H hf _ => ?_
  obtain ⟨a', len, cap, rfl, _⟩ := (H.get (i := 0) rfl : SliceAt _ _ _ _ _)
  refine hK _ _ _ _ ?_
  have H : St w0 F w3 (sliceO 41 1 (.slice a' len cap) ((ps ++ qs).map PartR.hdr) :: (ps.map partO ++ partsO (.slice a2 n2 c2) qs :: L)) := by simpa using H
  have H : St w0 F w3 (partsO (.slice a2 n2 c2) qs :: sliceO 41 1 (.slice a' len cap) ((ps ++ qs).map PartR.hdr) :: (ps.map partO ++ L)) := H.perm (by
    refine List.Perm.trans (List.Perm.cons _ List.perm_middle) (List.Perm.swap _ _ _))
  have H := Sh.St.open (M := sliceO 41 1 (.slice a2 n2 c2) (qs.map PartR.hdr) :: qs.map partO) H
  have H : St w0 F w3 (qs.map partO ++ sliceO 41 1 (.slice a' len cap) ((ps ++ qs).map PartR.hdr) :: (ps.map partO ++ L)) := H.tail
  refine Sh.St.close (M := sliceO 41 1 (.slice a' len cap) ((ps ++ qs).map PartR.hdr) :: (ps ++ qs).map partO) (H.perm ?_)
  rw [List.map_append (f := partO)]
  refine List.Perm.trans List.perm_middle ?_
  rw [List.cons_append]
  refine List.Perm.cons _ ?_
  rw [← List.append_assoc]
  exact List.perm_append_comm.append_right L
/-- What a disk's log shows when it is opened from f on: segments f .. s, with contents c. -/
structure LogAt (l : Files) (nm : List UInt8) (f s : Nat) (c : Nat → Bytes) : Prop where
  fs : f ≤ s
  s6 : s < 999999
  here : ∀ k, f ≤ k → k ≤ s → ∃ y, look l (seg nm k) = some (c k, y)
  only : ∀ k, k < 1000000 → (look l (seg nm k)).isSome = true → k ≤ s
  tmp : look l (tmpOf nm) = none
  good : ∀ k, f ≤ k → k < s → (rdF (c k)).2.2 = 0
  names : ∀ t, t ∈ keysOf l → hasPre t (preOf nm) = true → ∃ k, k < 1000000 ∧ t = seg nm k
end
end Go.Proofs.YtnhjcjnjpciifaaDoor

/- A log opened: Open. -/
namespace Go.Proofs.YtnhjcjnjpciifaaDoor
open Go.Sh
/-- What Open makes of a disk: each segment keeps its whole frames, synced; the rest is as it was. -/
structure Opened (l l' : Files) (nm : List UInt8) (f s : Nat) (c : Nat → Bytes) : Prop where
  segs : ∀ k, f ≤ k → k ≤ s → look l' (seg nm k) = some (kept (c k), (kept (c k)).length)
  rest : ∀ t, (∀ k, f ≤ k → k ≤ s → t ≠ seg nm k) → look l' t = look l t
  total : total l' ≤ total l
  len : l'.length ≤ l.length + 1
theorem keys_look {l : Files} {t : ByteArray} : t ∈ keysOf l ↔ (look l t).isSome = true := by
  rw [keys_mem]
  have : (look l t).isSome = (aget l t).isSome := by unfold look; simp
  rw [this]
theorem Opened.names {l l' : Files} {nm : List UInt8} {f s : Nat} {c : Nat → Bytes} (h : Opened l l' nm f s c) (hs : s < 999999) (hn : ∀ t, t ∈ keysOf l → hasPre t (preOf nm) = true → ∃ k, k < 1000000 ∧ t = seg nm k) :
    ∀ t, t ∈ keysOf l' → hasPre t (preOf nm) = true → ∃ k, k < 1000000 ∧ t = seg nm k := by
  intro t ht hp
  by_cases hx : ∃ k, f ≤ k ∧ k ≤ s ∧ t = seg nm k
  · obtain ⟨k, _, h2, h3⟩ := hx
    exact ⟨k, by omega, h3⟩
  · refine hn t ?_ hp
    rw [keys_look] at ht ⊢
    rw [← h.rest t fun k h1 h2 h3 => hx ⟨k, h1, h2, h3⟩]
    exact ht
theorem Opened.only {l l' : Files} {nm : List UInt8} {f s : Nat} {c : Nat → Bytes} (h : Opened l l' nm f s c) (ho : ∀ k, k < 1000000 → (look l (seg nm k)).isSome = true → k ≤ s) :
    ∀ k, k < 1000000 → (look l' (seg nm k)).isSome = true → k ≤ s := by
  intro k hk hs
  rcases Nat.lt_or_ge s k with hlt | hge
  · refine ho k hk ?_
    rw [← h.rest (seg nm k) fun q _ h2 h3 => ?_]
    · exact hs
    · have hq : q < 1000000 := by omega
      have := seg_inj hk hq h3
      omega
  · exact hge
theorem loads_le (c : Nat → Bytes) {f n s : Nat} (h1 : f ≤ n) (h2 : n ≤ s) : (loads c f n).length ≤ (loads c f s).length := by
  induction s with
  | zero => have : n = 0 := by omega
            subst this; exact Nat.le_refl _
  | succ s ih =>
    rcases Nat.lt_or_ge s n with h | h
    · have : n = s + 1 := by omega
      subst this; exact Nat.le_refl _
    · rw [loads_snoc c (by omega), List.length_append]
      have := ih h
      omega
attribute [local irreducible] rRun LDI LDB LDS LDP LDSl LDM LD Go.Sh.ST AL ALM LetW CallR CallV CallI NN IX SIX Br Req mInt mBool mStr mPtr mSlice mMap mAgg mTup mCons mNil mNth mPA LoopS
section
variable {w0 w : World} {F : List Nat} {L : List Own} {K : Value → World → Prop} {db bm : Nat} {size born : Int} {l : Files} {nm : List UInt8} {o : Obj}
theorem Open_end {f s p : Nat} {c : Nat → Bytes} {l' : Files} {ps : List PartR} {aa : Option Addr} {an ac : Nat} (hnl : nm.length ≤ 32) (hlog : LogAt l nm f s c) (htl : total l ≤ 4000000000) (hl : l.length ≤ 900000) (hop : Opened l l' nm f s c)
    (H : St w0 F w (dO db bm size born l' :: logO p db nm s :: partsO (.slice aa an ac) ps :: L)) (ht : List.Mem (tabO o) L)
    (hK : ∀ w', St w0 F w' (dO db bm size born l' :: logO p db nm s :: partsO (.slice aa an ac) ps :: L) → K (.tuple #[.pointer (some ⟨p, 0, none⟩), .slice aa an ac, .int .i64 0]) w') :
    wal_Open_b4 (bstr nm) (f : Int) ⟨p, 0, none⟩ aa an ac K w := by
  have h1 := hop.total
  have h2 := hop.len
  have h3 := hlog.fs
  have h4 := hlog.s6
  unfold wal_Open_b4
  refine there_walk (by omega) (by omega) (by omega) H (.head _) (.tail _ (.tail _ ht)) fun w1 H => mBool_mk ?_
  rw [hop.segs f (Nat.le_refl _) h3]
  refine brF rfl ?_
  unfold wal_Open_b3
  refine segments_walk (by omega) H (.head _) (.tail _ (.tail _ ht)) (by omega) (hop.names h4 hlog.names) fun w2 a n c2 ks hks he H => mSlice_mk ?_
  have hn : n = ks.length := by
    have := (H.get (i := 0) rfl : SliceAt w2 3 1 (.slice a n c2) _).len
    simpa [nats] using this
  subst hn
  have hkn : ks.length ≤ 1000000 := by
    have h1 := listed_len [preOf nm] l'
    rw [← he, List.length_map] at h1
    omega
  refine wLoop (fun k t w' => ∃ (i : Nat), k + i = ks.length ∧ t = (bstr nm, ⟨p, 0, none⟩, aa, an, ac, a, ks.length, c2, (ks.length : Int), (i : Int)) ∧ St w0 F w' (sliceO 3 1 (.slice a ks.length c2) (nats ks) :: dO db bm size born l' :: logO p db nm s :: partsO (.slice aa an ac) ps :: L)) ⟨ks.length, 0, rfl, rfl, H⟩ ?_
  clear H
  rintro k t w3 ⟨i, hk, rfl, H⟩
  refine br (fun h => ?_) (fun h => hK w3 H.tail)
  have hi : i < ks.length := by simp at h; omega
  obtain ⟨q, hq⟩ : ∃ q, ks[i]? = some q := ⟨_, List.getElem?_eq_getElem hi⟩
  have hq6 := hks q (List.mem_of_getElem? hq)
  have hqs : q ≤ s := hop.only hlog.only q hq6 ((seg_listed hks he hq6).1 (List.mem_of_getElem? hq))
  have hwi : IntKind.wrap .i64 ((i : Int) + 1) = ((i + 1 : Nat) : Int) := by rw [wrap_id (by omega) (by omega)]; rfl
  refine wIXr (H.get (i := 0) rfl : SliceAt w3 3 1 (.slice a ks.length c2) _).reads (i := i) (by simpa [nats] using hi) rfl fun ad had => ?_
  rw [nats, List.getElem?_map, hq] at had
  refine ldI had ?_
  repeat (first | apply mInt_mk | apply mCons_mk | (apply xC H; rfl; (focus (repeat (first | exact List.Mem.head _ | apply List.Mem.tail | assumption))); rfl) | apply mStr_mk | apply mNil_mk | apply mSlice_mk | (apply xI H; rfl; (focus (repeat (first | exact List.Mem.head _ | apply List.Mem.tail | assumption))); rfl) | (apply xST H; rfl; (focus (repeat (first | exact Upd.here _ | apply Upd.there))); (focus (repeat (first | exact SetAt.zero _ _ | apply SetAt.succ))); rfl; intro w1 H) | (apply xSl H; rfl; (focus (repeat (first | exact List.Mem.head _ | apply List.Mem.tail | assumption))); rfl) | (apply xP H; rfl; (focus (repeat (first | exact List.Mem.head _ | apply List.Mem.tail | assumption))); rfl) | (apply xS H; rfl; (focus (repeat (first | exact List.Mem.head _ | apply List.Mem.tail | assumption))); rfl) | apply nn | (apply wLW H; intro w1 H) | apply mTup_mk | apply mAgg_mk | apply mPtr_mk | apply mBool_mk | (apply xM H; rfl; (focus (repeat (first | exact List.Mem.head _ | apply List.Mem.tail | assumption))); rfl) | (apply xB H; rfl; (focus (repeat (first | exact List.Mem.head _ | apply List.Mem.tail | assumption))); rfl) | apply wEq)
  refine brF (by simp; omega) ?_
  exact ⟨k - 1, by omega, i + 1, by omega, by rw [hwi], H⟩
theorem Open_walk {f s : Nat} {c : Nat → Bytes} (hne : 1 ≤ nm.length) (hnl : nm.length ≤ 32) (hnm : ∀ x ∈ nm, 97 ≤ x.toNat ∧ x.toNat ≤ 122) (hnk : nmOk nm) (hlog : LogAt l nm f s c) (hcb : ∀ k, (c k).length ≤ 1000000000) (hld : (loads c f (s + 1)).length ≤ 1000000000)
    (htl : total l ≤ 4000000000) (hl : l.length ≤ 900000) (hroom : (total l : Int) + (kept (c s)).length ≤ size) (H : St w0 F w (dO db bm size born l :: L)) (ht : List.Mem (tabO o) L)
    (hK : ∀ w' p l' ps a n c', ps.map (·.bs) = loads c f (s + 1) → Opened l l' nm f s c → St w0 F w' (dO db bm size born l' :: logO p db nm s :: partsO (.slice a n c') ps :: L) → K (.tuple #[.pointer (some ⟨p, 0, none⟩), .slice a n c', .int .i64 0]) w') :
    CallR Tryd.prog fn_wal_Open #[.pointer (some ⟨db, 0, none⟩), .string (bstr nm), .int .i64 (f : Int)] w K := by
  have h3 := hlog.fs
  have h4 := hlog.s6
  refine wal_Open_sound _ _ _ _ _ ?_
  refine named_walk hne hnl hnm H fun w1 H => mBool_mk (brF rfl (brF (by simp) (brF (by simp; omega) ?_)))
  refine wAL H fun p w2 H => ?_
  have H : St w0 F w2 (partsO (.slice none 0 0) [] :: dO db bm size born l :: logO p db nm f :: L) := nothing_parts (H.front (dO db bm size born l))
  have H := (H.front (logO p db nm f)).front (dO db bm size born l)
  refine wLoop (fun k t w' => ∃ (n : Nat) (l' : Files) (ps : List PartR) (aa : Option Addr) (an ac : Nat), k + n = s + 1 ∧ t = (bstr nm, (f : Int), ⟨p, 0, none⟩, aa, an, ac, (n : Int)) ∧ f ≤ n ∧ ps.map (·.bs) = loads c f n ∧
    (∀ k, f ≤ k → k < n → look l' (seg nm k) = some (c k, (c k).length) ∧ (rdF (c k)).2.2 = 0) ∧ (∀ t, (∀ k, f ≤ k → k < n → t ≠ seg nm k) → look l' t = look l t) ∧ total l' = total l ∧ l'.length = l.length ∧
    St w0 F w' (dO db bm size born l' :: logO p db nm (if n = f then f else n - 1) :: partsO (.slice aa an ac) ps :: L))
    ⟨s + 1 - f, f, l, [], none, 0, 0, by omega, rfl, Nat.le_refl _, by rw [loads_nil]; rfl, fun k h1 h2 => by omega, fun _ _ => rfl, rfl, rfl, by rw [if_pos rfl]; exact H⟩ ?_
  clear H
  rintro k t w3 ⟨n, l1, ps, aa, an, ac, hk, rfl, hfn, hps, hdone, hrest, htot, hlen, H⟩
  simp only
  unfold wal_Open_b5
  have hpl : ps.length = (loads c f n).length := by rw [← hps, List.length_map]
  refine there_walk (by omega) (by omega) (by omega) H (.head _) (.tail _ (.tail _ ht)) fun w4 H => mBool_mk ?_
  have hsn : look l1 (seg nm n) = look l (seg nm n) := hrest _ fun q h1 h2 h3 => by have := seg_inj (by omega) (by omega) h3; omega
  rw [hsn]
  by_cases hns : n ≤ s
  · obtain ⟨y, hy⟩ := hlog.here n hfn hns
    rw [hy]
    refine brT rfl ?_
    repeat (first | apply mInt_mk | apply mCons_mk | (apply xC H; rfl; (focus (repeat (first | exact List.Mem.head _ | apply List.Mem.tail | assumption))); rfl) | apply mStr_mk | apply mNil_mk | apply mSlice_mk | (apply xI H; rfl; (focus (repeat (first | exact List.Mem.head _ | apply List.Mem.tail | assumption))); rfl) | (apply xST H; rfl; (focus (repeat (first | exact Upd.here _ | apply Upd.there))); (focus (repeat (first | exact SetAt.zero _ _ | apply SetAt.succ))); rfl; intro w1 H) | (apply xSl H; rfl; (focus (repeat (first | exact List.Mem.head _ | apply List.Mem.tail | assumption))); rfl) | (apply xP H; rfl; (focus (repeat (first | exact List.Mem.head _ | apply List.Mem.tail | assumption))); rfl) | (apply xS H; rfl; (focus (repeat (first | exact List.Mem.head _ | apply List.Mem.tail | assumption))); rfl) | apply nn | (apply wLW H; intro w1 H) | apply mTup_mk | apply mAgg_mk | apply mPtr_mk | apply mBool_mk | (apply xM H; rfl; (focus (repeat (first | exact List.Mem.head _ | apply List.Mem.tail | assumption))); rfl) | (apply xB H; rfl; (focus (repeat (first | exact List.Mem.head _ | apply List.Mem.tail | assumption))); rfl) | apply wEq)
    refine Segment_walk (by omega) (by omega) H (.tail _ (.tail _ (.tail _ ht))) fun w5 H => mStr_mk ?_
    repeat (first | apply mInt_mk | apply mCons_mk | (apply xC H; rfl; (focus (repeat (first | exact List.Mem.head _ | apply List.Mem.tail | assumption))); rfl) | apply mStr_mk | apply mNil_mk | apply mSlice_mk | (apply xI H; rfl; (focus (repeat (first | exact List.Mem.head _ | apply List.Mem.tail | assumption))); rfl) | (apply xST H; rfl; (focus (repeat (first | exact Upd.here _ | apply Upd.there))); (focus (repeat (first | exact SetAt.zero _ _ | apply SetAt.succ))); rfl; intro w1 H) | (apply xSl H; rfl; (focus (repeat (first | exact List.Mem.head _ | apply List.Mem.tail | assumption))); rfl) | (apply xP H; rfl; (focus (repeat (first | exact List.Mem.head _ | apply List.Mem.tail | assumption))); rfl) | (apply xS H; rfl; (focus (repeat (first | exact List.Mem.head _ | apply List.Mem.tail | assumption))); rfl) | apply nn | (apply wLW H; intro w1 H) | apply mTup_mk | apply mAgg_mk | apply mPtr_mk | apply mBool_mk | (apply xM H; rfl; (focus (repeat (first | exact List.Mem.head _ | apply List.Mem.tail | assumption))); rfl) | (apply xB H; rfl; (focus (repeat (first | exact List.Mem.head _ | apply List.Mem.tail | assumption))); rfl) | apply wEq)
    refine read_walk H (by omega) (fun hno => by rw [hsn, hy] at hno; cases hno) fun x hx w6 va vn vc H => ?_
    rw [hsn, hy] at hx
    cases hx
    repeat (first | apply mInt_mk | apply mCons_mk | (apply xC H; rfl; (focus (repeat (first | exact List.Mem.head _ | apply List.Mem.tail | assumption))); rfl) | apply mStr_mk | apply mNil_mk | apply mSlice_mk | (apply xI H; rfl; (focus (repeat (first | exact List.Mem.head _ | apply List.Mem.tail | assumption))); rfl) | (apply xST H; rfl; (focus (repeat (first | exact Upd.here _ | apply Upd.there))); (focus (repeat (first | exact SetAt.zero _ _ | apply SetAt.succ))); rfl; intro w1 H) | (apply xSl H; rfl; (focus (repeat (first | exact List.Mem.head _ | apply List.Mem.tail | assumption))); rfl) | (apply xP H; rfl; (focus (repeat (first | exact List.Mem.head _ | apply List.Mem.tail | assumption))); rfl) | (apply xS H; rfl; (focus (repeat (first | exact List.Mem.head _ | apply List.Mem.tail | assumption))); rfl) | apply nn | (apply wLW H; intro w1 H) | apply mTup_mk | apply mAgg_mk | apply mPtr_mk | apply mBool_mk | (apply xM H; rfl; (focus (repeat (first | exact List.Mem.head _ | apply List.Mem.tail | assumption))); rfl) | (apply xB H; rfl; (focus (repeat (first | exact List.Mem.head _ | apply List.Mem.tail | assumption))); rfl) | apply wEq)
    have hcn := hcb n
    refine ReadFrames_walk (bs := c n) H (fun w' H' => (H'.get (i := 0) rfl : SliceAt w' 5 1 (.slice va vn vc) _).reads) hcn fun w7 qs ra rn rc hqs H => ?_
    repeat (first | apply mInt_mk | apply mCons_mk | (apply xC H; rfl; (focus (repeat (first | exact List.Mem.head _ | apply List.Mem.tail | assumption))); rfl) | apply mStr_mk | apply mNil_mk | apply mSlice_mk | (apply xI H; rfl; (focus (repeat (first | exact List.Mem.head _ | apply List.Mem.tail | assumption))); rfl) | (apply xST H; rfl; (focus (repeat (first | exact Upd.here _ | apply Upd.there))); (focus (repeat (first | exact SetAt.zero _ _ | apply SetAt.succ))); rfl; intro w1 H) | (apply xSl H; rfl; (focus (repeat (first | exact List.Mem.head _ | apply List.Mem.tail | assumption))); rfl) | (apply xP H; rfl; (focus (repeat (first | exact List.Mem.head _ | apply List.Mem.tail | assumption))); rfl) | (apply xS H; rfl; (focus (repeat (first | exact List.Mem.head _ | apply List.Mem.tail | assumption))); rfl) | apply nn | (apply wLW H; intro w1 H) | apply mTup_mk | apply mAgg_mk | apply mPtr_mk | apply mBool_mk | (apply xM H; rfl; (focus (repeat (first | exact List.Mem.head _ | apply List.Mem.tail | assumption))); rfl) | (apply xB H; rfl; (focus (repeat (first | exact List.Mem.head _ | apply List.Mem.tail | assumption))); rfl) | apply wEq)
    have hjl : ps.length + qs.length ≤ 1000000000 := by
      have h5 := loads_le c (f := f) (n := n + 1) (s := s + 1) (by omega) (by omega)
      have h6 : qs.length = (rdF (c n)).1.length := by rw [← hqs, List.length_map]
      rw [loads_snoc c hfn, List.length_append] at h5
      omega
    have H := (H.front (partsO (.slice ra rn rc) qs)).front (partsO (.slice aa an ac) ps)
    refine parts_join hjl H fun w8 ja jn jc H => mSlice_mk ?_
    have hps2 : (ps ++ qs).map (·.bs) = loads c f (n + 1) := by rw [List.map_append, hps, hqs, loads_snoc c hfn]
    refine br (fun he => ?_) (fun he => ?_)
    · have he : (rdF (c n)).2.2 ≠ 0 := by simp at he; omega
      have hns2 : n = s := by
        rcases Nat.lt_or_ge n s with h | h
        · exact absurd (hlog.good n hfn h) he
        · omega
      subst hns2
      have hkp : kept (c n) = (c n).take (rdF (c n)).2.1 := by unfold kept; rw [if_neg he]
      have hrl := rdF_le (c n)
      refine head_walk (bs := c n) (H.get (i := 1) rfl : SliceAt w8 5 1 (.slice va vn vc) _).reads hrl ?_
      refine mSlice_mk ?_
      have hvn : vn = (c n).length := (by simpa using (H.get (i := 1) rfl : SliceAt w8 5 1 (.slice va vn vc) _).len)
      have H := H.front (dO db bm size born l1)
      have htmp : look l1 (tmpOf nm) = none := by rw [hrest _ fun q _ _ h => (seg_tmp nm q) h.symm]; exact hlog.tmp
      have hk1 := kept_len (c n)
      refine cut_walk (x := (c n, y)) (bs := (c n).take (rdF (c n)).2.1) (by omega) hnk (by omega) (by simp; omega) H (.tail _ (.tail _ (.head _))) (.tail _ (.tail _ (.tail _ ht))) (fun w' l2 H' => ?_) htmp (by rw [hsn, hy]) (by rw [← hkp, htot]; exact hroom) fun w9 l2 hl2 ht2 hn2 H => mInt_mk (brF rfl ?_)
      · exact Ext.sub0 (Sh.St.ext (A := [dO db bm size born l2]) (E := 5) H' (List.mem_cons_of_mem _ (List.mem_cons_self ..))) (by rw [hvn]; exact hrl)
      · rw [← hkp] at hl2 ht2
        have hop : Opened l l2 nm f n c := by
          refine ⟨fun q h1 h2 => ?_, fun t ht => ?_, by simp only at ht2; omega, by omega⟩
          · rcases Nat.lt_or_ge q n with h | h
            · have hne : seg nm q ≠ seg nm n := fun h => by have := seg_inj (by omega) (by omega) h; omega
              rw [hl2, upd_ne _ _ hne, (hdone q h1 h).1]
              unfold kept
              rw [if_pos (hdone q h1 h).2]
            · have : q = n := by omega
              subst this
              rw [hl2, upd_same]
          · rw [hl2, upd_ne _ _ (ht n hfn (Nat.le_refl _))]
            exact hrest t fun q h1 h2 => ht q h1 (by omega)
        have H := (H.front (sliceO 5 1 (.slice va vn vc) (bvals (c n)))).tail
        have H := (H.front (logO p db nm n)).front (dO db bm size born l2)
        exact Open_end hnl hlog htl hl hop H ht fun w' H => hK w' p l2 (ps ++ qs) ja jn jc hps2 hop H
    · have he : (rdF (c n)).2.2 = 0 := by simp at he; omega
      refine wLW H ?_
      intro w9 H
      repeat (first | apply mInt_mk | apply mCons_mk | (apply xC H; rfl; (focus (repeat (first | exact List.Mem.head _ | apply List.Mem.tail | assumption))); rfl) | apply mStr_mk | apply mNil_mk | apply mSlice_mk | (apply xI H; rfl; (focus (repeat (first | exact List.Mem.head _ | apply List.Mem.tail | assumption))); rfl) | (apply xST H; rfl; (focus (repeat (first | exact Upd.here _ | apply Upd.there))); (focus (repeat (first | exact SetAt.zero _ _ | apply SetAt.succ))); rfl; intro w1 H) | (apply xSl H; rfl; (focus (repeat (first | exact List.Mem.head _ | apply List.Mem.tail | assumption))); rfl) | (apply xP H; rfl; (focus (repeat (first | exact List.Mem.head _ | apply List.Mem.tail | assumption))); rfl) | (apply xS H; rfl; (focus (repeat (first | exact List.Mem.head _ | apply List.Mem.tail | assumption))); rfl) | apply nn | (apply wLW H; intro w1 H) | apply mTup_mk | apply mAgg_mk | apply mPtr_mk | apply mBool_mk | (apply xM H; rfl; (focus (repeat (first | exact List.Mem.head _ | apply List.Mem.tail | assumption))); rfl) | (apply xB H; rfl; (focus (repeat (first | exact List.Mem.head _ | apply List.Mem.tail | assumption))); rfl) | apply wEq)
      refine Segment_walk (by omega) (by omega) H (.tail _ (.tail _ (.tail _ (.tail _ ht)))) fun w10 H => mStr_mk ?_
      repeat (first | apply mInt_mk | apply mCons_mk | (apply xC H; rfl; (focus (repeat (first | exact List.Mem.head _ | apply List.Mem.tail | assumption))); rfl) | apply mStr_mk | apply mNil_mk | apply mSlice_mk | (apply xI H; rfl; (focus (repeat (first | exact List.Mem.head _ | apply List.Mem.tail | assumption))); rfl) | (apply xST H; rfl; (focus (repeat (first | exact Upd.here _ | apply Upd.there))); (focus (repeat (first | exact SetAt.zero _ _ | apply SetAt.succ))); rfl; intro w1 H) | (apply xSl H; rfl; (focus (repeat (first | exact List.Mem.head _ | apply List.Mem.tail | assumption))); rfl) | (apply xP H; rfl; (focus (repeat (first | exact List.Mem.head _ | apply List.Mem.tail | assumption))); rfl) | (apply xS H; rfl; (focus (repeat (first | exact List.Mem.head _ | apply List.Mem.tail | assumption))); rfl) | apply nn | (apply wLW H; intro w1 H) | apply mTup_mk | apply mAgg_mk | apply mPtr_mk | apply mBool_mk | (apply xM H; rfl; (focus (repeat (first | exact List.Mem.head _ | apply List.Mem.tail | assumption))); rfl) | (apply xB H; rfl; (focus (repeat (first | exact List.Mem.head _ | apply List.Mem.tail | assumption))); rfl) | apply wEq)
      refine wAL H fun b w11 H => ?_
      repeat (first | apply mInt_mk | apply mCons_mk | (apply xC H; rfl; (focus (repeat (first | exact List.Mem.head _ | apply List.Mem.tail | assumption))); rfl) | apply mStr_mk | apply mNil_mk | apply mSlice_mk | (apply xI H; rfl; (focus (repeat (first | exact List.Mem.head _ | apply List.Mem.tail | assumption))); rfl) | (apply xST H; rfl; (focus (repeat (first | exact Upd.here _ | apply Upd.there))); (focus (repeat (first | exact SetAt.zero _ _ | apply SetAt.succ))); rfl; intro w1 H) | (apply xSl H; rfl; (focus (repeat (first | exact List.Mem.head _ | apply List.Mem.tail | assumption))); rfl) | (apply xP H; rfl; (focus (repeat (first | exact List.Mem.head _ | apply List.Mem.tail | assumption))); rfl) | (apply xS H; rfl; (focus (repeat (first | exact List.Mem.head _ | apply List.Mem.tail | assumption))); rfl) | apply nn | (apply wLW H; intro w1 H) | apply mTup_mk | apply mAgg_mk | apply mPtr_mk | apply mBool_mk | (apply xM H; rfl; (focus (repeat (first | exact List.Mem.head _ | apply List.Mem.tail | assumption))); rfl) | (apply xB H; rfl; (focus (repeat (first | exact List.Mem.head _ | apply List.Mem.tail | assumption))); rfl) | apply wEq)
      refine sync_walk rfl (H.front (dO db bm size born l1)) (.head _) (fun hno => by rw [hsn, hy] at hno; cases hno) (fun z hz w12 l2 hl2 ht2 hn2 H => mInt_mk ?_) rfl
      rw [hsn, hy] at hz
      cases hz
      have H := (((H.front (pt b (.cells #[.string (seg nm n)] 9))).tail).front (sliceO 5 1 (.slice va vn vc) (bvals (c n)))).tail
      have H := (H.front (logO p db nm n)).front (dO db bm size born l2)
      have hwn : IntKind.wrap .i64 ((n : Int) + 1) = ((n + 1 : Nat) : Int) := by rw [wrap_id (by omega) (by omega)]; rfl
      refine ⟨k - 1, by omega, n + 1, l2, ps ++ qs, ja, jn, jc, by omega, by rw [hwn], by omega, hps2, fun q h1 h2 => ?_, fun t ht => ?_, by omega, by omega, ?_⟩
      · rcases Nat.lt_or_ge q n with h | h
        · have hne : seg nm q ≠ seg nm n := fun h => by have := seg_inj (by omega) (by omega) h; omega
          rw [hl2, upd_ne _ _ hne]
          exact hdone q h1 h
        · have : q = n := by omega
          subst this
          rw [hl2, upd_same]
          exact ⟨rfl, he⟩
      · rw [hl2, upd_ne _ _ (ht n hfn (by omega))]
        exact hrest t fun q h1 h2 => ht q h1 (by omega)
      · rw [if_neg (by omega), Nat.add_sub_cancel]
        exact H
  · have hn1 : n = s + 1 := by omega
    subst hn1
    have hnone : look l (seg nm (s + 1)) = none := by
      cases hg : look l (seg nm (s + 1)) with
      | none => rfl
      | some x => have := hlog.only (s + 1) (by omega) (by rw [hg]; rfl); omega
    rw [hnone]
    refine brF rfl ?_
    have hop : Opened l l1 nm f s c := by
      refine ⟨fun q h1 h2 => ?_, fun t ht => hrest t fun q h1 h2 => ht q h1 (by omega), by omega, by omega⟩
      rw [(hdone q h1 (by omega)).1]
      unfold kept
      rw [if_pos (hdone q h1 (by omega)).2]
    rw [if_neg (by omega), Nat.add_sub_cancel] at H
    exact Open_end hnl hlog htl hl hop H ht fun w' H => hK w' p l1 ps aa an ac hps hop H
end
end Go.Proofs.YtnhjcjnjpciifaaDoor
