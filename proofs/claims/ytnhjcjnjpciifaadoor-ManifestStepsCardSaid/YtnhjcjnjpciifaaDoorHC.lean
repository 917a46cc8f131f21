/- Slices of tables: loads, Clone, IndexFunc, has, Contains, DeleteFunc. -/
import Derived.Test.YtnhjcjnjpciifaaDoorShMore
import Derived.Test.YtnhjcjnjpciifaaDoorHB
import Derived.Test.YtnhjcjnjpciifaaDoorShElems
namespace Go.Proofs.YtnhjcjnjpciifaaDoor
open Go.Sh
section
variable {P : Program} {w0 w : World} {F : List Nat} {L : List Own}
theorem _root_.Go.Sh.clear_ownK {t E ty i m cap n c' sz : Nat} {z : Value} {x y : Option Addr} {cs : List Value} {K : Value → World → Prop} (ht : P.underlying t = some (.slice E)) (hz : (P.info? E).bind (·.zero) = some z) (hzs : z.cells.size = sz) (hz1 : ∀ v ∈ z.cells.toList, v.oneCell' = true) (hsz : 0 < sz)
    (H : St w0 F w L) (hi : L[i]? = some (sliceO E sz (.slice x m cap) cs)) (hn : m + n ≤ cap) (hy : n = 0 ∨ y = x.map (·.add (m * sz)))
    (hK : ∀ w', St w0 F w' L → K (.tuple #[]) w') : rRun P (Builtin.clear_ #[t] ty #[.slice y n c']) w K := by
  rcases hy with rfl | rfl
  · refine rRun_intro (w' := w) (v := .tuple #[]) ?_ (hK w H)
    cases y <;> simp [Builtin.clear_, run_underlying' ht]
  · by_cases hn0 : n = 0
    · subst hn0
      refine rRun_intro (w' := w) (v := .tuple #[]) ?_ (hK w H)
      cases x <;> simp [Builtin.clear_, run_underlying' ht]
    · obtain ⟨a', len, cp, he, h1, h2, h3⟩ := (H.get hi : SliceAt w E sz (.slice x m cap) cs)
      cases he
      rcases h3 with h3 | ⟨b, cc, fz', rfl, hblk, hcs, hcells, hfz⟩
      · omega
      have hv : ∀ w, (zeroValue E).run P w = .ok z w := by
        intro w
        cases hI : P.info? E with
        | none => rw [hI] at hz; cases hz
        | some inf =>
          rw [hI] at hz
          simp only [Option.bind_some] at hz
          simp [zeroValue, typeInfo, hI, hz]
      have hlen : (Builtin.zeroCells z.cells n).toList.length = n * sz := by simp [Builtin.zeroCells, hzs]
      have hone : ∀ v ∈ (Builtin.zeroCells z.cells n).toList, v.oneCell' = true := by
        intro v hv'
        simp only [Builtin.zeroCells, Array.toList_map, List.mem_map] at hv'
        obtain ⟨q, _, rfl⟩ := hv'
        have hq : q % z.cells.size < z.cells.size := Nat.mod_lt _ (by omega)
        rw [getElem!_pos z.cells _ hq]
        exact hz1 _ (by simp)
      have hroom : m * sz + n * sz ≤ cap * sz := by rw [← Nat.add_mul]; exact Nat.mul_le_mul_right _ hn
      have hst := run_storeCells_cells (P := P) b (m * sz) (Builtin.zeroCells z.cells n).toList 0 w
        (fun j hj => by rw [Nat.add_zero, cell_blk hblk, Array.getElem?_eq_getElem (by omega)]; rfl)
        (fun j hj => by rw [Nat.add_zero, frozen_blk hblk]; exact fzok_get hfz (by omega)) hone
      simp only [Nat.add_zero] at hst
      obtain ⟨k, rfl⟩ : ∃ k, n = k + 1 := ⟨n - 1, by omega⟩
      have hr : (Builtin.clear_ #[t] ty #[.slice (some ⟨b, m * sz, none⟩) (k + 1) c']).run P w = .ok (.tuple #[]) (w.setCells b (m * sz) (Builtin.zeroCells z.cells (k + 1)).toList) := by
        simp [Builtin.clear_, run_underlying' ht, hv, hst]
      obtain ⟨cc', hw', hsz', hg'⟩ := setCells_blk (Builtin.zeroCells z.cells (k + 1)).toList (m * sz) w hblk
      rw [hw'] at hr
      have hfr : Fr (sfp (.slice (some ⟨b, 0, none⟩) m cap)) w (Sh.setBlk w b (.cells cc' E fz')) := by
        obtain ⟨k, rfl⟩ : ∃ k, cap = k + 1 := ⟨cap - 1, by omega⟩
        simpa [sfp] using Fr.setBlk w b (.cells cc' E fz')
      have hadd : (some (⟨b, 0, none⟩ : Addr)).map (·.add (m * sz)) = some ⟨b, m * sz, none⟩ := by simp [Addr.add_mk]
      rw [hadd]
      refine rRun_intro hr (hK _ ?_)
      have hset : L.set i (sliceO E sz (.slice (some ⟨b, 0, none⟩) m cap) cs) = L := by
        apply List.ext_getElem?
        intro q
        rw [List.getElem?_set]
        split
        · rename_i hq; subst hq; rw [hi]; have := (List.getElem?_eq_some_iff.1 hi).1; simp [this]
        · rfl
      rw [← hset]
      refine St.perm ?_ (perm_set _ hi)
      refine St.step (A := [sliceO E sz (.slice (some ⟨b, 0, none⟩) m cap) cs]) (A' := [sliceO E sz (.slice (some ⟨b, 0, none⟩) m cap) cs]) (H.perm (perm_front hi)) (by simpa [sliceO] using hfr) ?_ (fun b hb => .inl hb)
      have hat : SliceAt (Sh.setBlk w b (.cells cc' E fz')) E sz (.slice (some ⟨b, 0, none⟩) m cap) cs := by
        refine ⟨_, _, _, rfl, h1, h2, .inr ⟨b, cc', fz', rfl, heap_setBlk_same (blk_lt hblk), by omega, fun j hj => ?_, hfz⟩⟩
        rw [hg' j, if_neg (by omega)]
        exact hcells j hj
      exact .cons hat (sfp_nodup _) hat.lt (by simp) (.nil _)
end
attribute [local irreducible] rRun LDI LDB LDS LDP LDSl LDM LD Go.Sh.ST AL ALM LetW CallR CallV CallI NN IX SIX Br Req mInt mBool mStr mPtr mSlice mMap mAgg mTup mCons mNil mNth mPA LoopS

abbrev tabsO (v : Value) (l : List Tab) : Own := sliceO 38 5 v (l.flatMap Tab.cells)
theorem elem_tab : ElemTy Tryd.prog 24 38 5 56 := elemTy_of (by kernel_rfl) (by kernel_rfl)
theorem tcells_one (l : List Tab) : ∀ u ∈ l.flatMap Tab.cells, u.oneCell' = true := by
  intro u hu
  obtain ⟨x, _, hx⟩ := List.mem_flatMap.1 hu
  simp [Tab.cells] at hx
  rcases hx with rfl | rfl | rfl | rfl | rfl <;> rfl
theorem tabs_len {w : World} {a : Option Addr} {n c : Nat} {l : List Tab} (h : Reads w 5 (.slice a n c) (l.flatMap Tab.cells)) : n = l.length := by
  obtain ⟨_, _, _, he, h1, _⟩ := h
  cases he
  rw [flat_length tcells_len] at h1
  omega
section
variable {w0 w : World} {F : List Nat} {L M : List Own}
theorem wIXt {a : Option Addr} {n c i : Nat} {v : Int} {l : List Tab} {t : Tab} {K : Addr → Prop} (hr : Reads w 5 (.slice a n c) (l.flatMap Tab.cells)) (hi : l[i]? = some t) (hv : v = (i : Int))
    (hK : ∀ ad : Addr, (∀ j x, t.cells[j]? = some x → w.cell? (ad.add j) = some x) → K ad) : IX a n v 5 K := by
  have hn := tabs_len hr
  obtain ⟨_, _, _, he, h1, h2, h3⟩ := hr
  cases he
  have hlt := (List.getElem?_eq_some_iff.1 hi).1
  rcases h3 with h3 | ⟨ad, rfl, h4⟩
  · omega
  have e : v.toNat * 5 = i * 5 := by rw [hv]; rfl
  unfold IX
  refine ⟨ad, rfl, by omega, by omega, ?_⟩
  rw [e]
  refine hK _ fun j x hj => ?_
  have hj5 : j < 5 := by have := (List.getElem?_eq_some_iff.1 hj).1; simpa [Tab.cells] using this
  rw [addr_add_add, h4 _ (by rw [flat_length tcells_len]; omega), flat_get tcells_len _ _ _ hj5, hi]
  exact hj
theorem tab_load {a : Option Addr} {n c i : Nat} {v : Int} {l : List Tab} {t : Tab} {K : Int → Int → ByteArray → ByteArray → Int → Prop} (hr : Reads w 5 (.slice a n c) (l.flatMap Tab.cells)) (hi : l[i]? = some t) (hv : v = (i : Int))
    (hK : K t.file t.level t.first t.last t.size) :
    IX a n v 5 fun ad => LDI .i64 w ad fun f => LDI .i64 w (Addr.add ad 1) fun lv => LDS w (Addr.add ad 2) fun fs => LDS w (Addr.add ad 3) fun ls => LDI .i64 w (Addr.add ad 4) fun sz => K f lv fs ls sz := by
  refine wIXt hr hi hv fun ad ha => ?_
  have e0 : Addr.add ad 0 = ad := by simp [Addr.add]
  have h0 := ha 0 _ rfl
  rw [e0] at h0
  exact ldI h0 (ldI (ha 1 _ rfl) (ldS (ha 2 _ rfl) (ldS (ha 3 _ rfl) (ldI (ha 4 _ rfl) hK))))

theorem CloneT_walk {a : Option Addr} {n c : Nat} {l : List Tab} {K : Value → World → Prop} (H : St w0 F w L) (hr : ∀ w', St w0 F w' L → Reads w' 5 (.slice a n c) (l.flatMap Tab.cells)) (hl : l.length ≤ 1000000)
    (hK : ∀ w' a' c', St w0 F w' (tabsO (.slice a' l.length c') l :: L) → K (.slice a' l.length c') w') :
    CallR Tryd.prog fn_slices_Clone_s_api_Table_api_Table #[.slice a n c] w K := by
  refine slices_Clone_s_api_Table_api_Table_sound _ _ _ _ _ ?_
  refine br (fun h => ?_) (fun h => ?_)
  · have hl0 : l = [] := by
      have hrr := hr w H
      have hn := tabs_len hrr
      obtain ⟨_, _, _, he, h1, h2, h3⟩ := hrr
      cases he
      rcases h3 with h3 | ⟨ad, rfl, _⟩
      · exact List.eq_nil_of_length_eq_zero (by omega)
      · cases h
    subst hl0
    exact hK w none 0 (H.nothing 38 5 none)
  · refine wAL H fun b w1 H => ?_
    obtain ⟨m, hm, hs⟩ := (hr w1 H.tail).src (P := Tryd.prog) (tx := 24) elem_tab.under (tcells_one l)
    have H := (H.tail).nothing 38 5 (some ⟨b, 0, none⟩)
    refine append_own (t := 24) (n := m) elem_tab (i := 0) H rfl hs (by rw [flat_length tcells_len]; simp; omega) (by decide) fun v' w' H hf hp => ?_
    obtain ⟨a', len, cap, rfl, _⟩ := (H.get (i := 0) rfl : SliceAt _ _ _ _ _)
    have H : St w0 F w' (tabsO (.slice a' len cap) l :: L) := H
    have hn := tabs_len (H.get (i := 0) rfl : SliceAt _ 38 5 _ _).reads
    subst hn
    exact mSlice_mk (hK _ _ _ H)

/-- IndexFunc, with a function that leaves what is owned as it is. -/
theorem IndexT_walk {a : Option Addr} {n c : Nat} {l : List Tab} {g : Value} {p : Tab → Bool} {K : Value → World → Prop} (H : St w0 F w L) (hl : l.length ≤ 1000000)
    (hr : ∀ w', St w0 F w' L → Reads w' 5 (.slice a n c) (l.flatMap Tab.cells))
    (hg : ∀ t w' K, St w0 F w' L → (∀ w'', St w0 F w'' L → K (.bool (p t)) w'') → CallV Tryd.prog g [.agg t.cells.toArray] w' K)
    (hno : (∀ t ∈ l, p t = false) → ∀ w', St w0 F w' L → K (.int .i64 (-1)) w')
    (hyes : ∀ (i : Nat) t, l[i]? = some t → p t = true → (∀ j, j < i → ∀ s, l[j]? = some s → p s = false) → ∀ w', St w0 F w' L → K (.int .i64 (i : Int)) w') :
    CallR Tryd.prog fn_slices_IndexFunc_s_api_Table_api_Table #[.slice a n c, g] w K := by
  have hn := tabs_len (hr w H)
  subst hn
  refine slices_IndexFunc_s_api_Table_api_Table_sound _ _ _ _ _ _ ?_
  refine wLoop (fun k s w' => ∃ i : Nat, k + i = l.length ∧ s = (a, l.length, c, g, (l.length : Int), (i : Int)) ∧ (∀ j, j < i → ∀ s, l[j]? = some s → p s = false) ∧ St w0 F w' L) ⟨l.length, 0, by omega, rfl, fun j hj => by omega, H⟩ ?_
  clear H
  rintro k s w1 ⟨i, hk, rfl, hz, H⟩
  refine br (fun h => ?_) (fun h => ?_)
  · have hi : i < l.length := by simp at h; omega
    obtain ⟨t, ht⟩ : ∃ t, l[i]? = some t := ⟨_, List.getElem?_eq_getElem hi⟩
    have hwi : IntKind.wrap .i64 ((i : Int) + 1) = ((i + 1 : Nat) : Int) := by rw [wrap_id (by omega) (by omega)]; rfl
    refine tab_load (hr _ H) ht rfl ?_
    refine hg t w1 _ H fun w2 H => mBool_mk ?_
    refine br (fun hp => hyes i t ht hp hz _ H) (fun hp => ?_)
    refine ⟨k - 1, by omega, i + 1, by omega, by rw [hwi], fun j hj s hs => ?_, H⟩
    by_cases hji : j = i
    · subst hji; rw [ht] at hs; cases hs; exact hp
    · exact hz j (by omega) s hs
  · have hi : l.length ≤ i := by simp at h; omega
    refine hno (fun t ht => ?_) _ H
    obtain ⟨j, hj⟩ := List.mem_iff_getElem?.1 ht
    exact hz j (by have := (List.getElem?_eq_some_iff.1 hj).1; omega) t hj
theorem has_walk {a : Option Addr} {n c : Nat} {l : List Tab} {file : Int} {K : Value → World → Prop} (H : St w0 F w L) (hl : l.length ≤ 1000000)
    (hr : ∀ w' N, St w0 F w' (N ++ L) → Reads w' 5 (.slice a n c) (l.flatMap Tab.cells))
    (hK : ∀ w', St w0 F w' L → K (.bool (hasF l file)) w') : CallR Tryd.prog fn_manifest_has #[.slice a n c, .int .i64 file] w K := by
  refine manifest_has_sound _ _ _ _ _ _ ?_
  refine wAL H fun q w1 H => ?_
  refine slices_ContainsFunc_s_api_Table_api_Table_sound _ _ _ _ _ _ ?_
  refine IndexT_walk (p := fun t => t.file == file) H hl (fun w' H => hr w' [_] H) ?_ ?_ ?_
  · intro t w' K H hK
    refine wCallV (by kernel_rfl) (manifest_has_1_sound _ _ _ _ _ ⟨q, 0, none⟩ _ _ ?_)
    refine wAL H fun q2 w2 H => ?_
    repeat (first | refine nn ?_ | refine wI H (hK := ?_) | refine wP H (hK := ?_) | refine wM H (hK := ?_) | refine wSl H (hK := ?_) | refine wB H (hK := ?_) | refine wS H (hK := ?_) | refine wEq ?_ | refine wC H (hK := ?_) | (refine wLW H ?_; intro w1 H) | (refine wST H (hK := ?_); intro w1 H _) | refine mSlice_mk ?_ | refine mInt_mk ?_ | refine mBool_mk ?_ | refine mTup_mk ?_ | refine mCons_mk ?_ | refine mNil_mk ?_ | refine mAgg_mk ?_ | refine mPtr_mk ?_ | refine mStr_mk ?_)
    exact hK _ H.tail
  · intro hz w' H
    refine mInt_mk (mBool_mk ?_)
    have e : hasF l file = false := by
      unfold hasF; rw [List.any_eq_false]; intro t ht; rw [hz t ht]; decide
    have := hK w' H.tail
    rw [e] at this; exact this
  · intro i t ht hp hz w' H
    refine mInt_mk (mBool_mk ?_)
    have e : hasF l file = true := by
      unfold hasF; rw [List.any_eq_true]; exact ⟨t, List.mem_of_getElem? ht, hp⟩
    have := hK w' H.tail
    rw [e] at this
    have e2 : decide ((i : Int) ≥ 0) = true := by simp
    rw [e2]; exact this
theorem ContainsI_walk {a : Option Addr} {n c : Nat} {l : List Int} {x : Int} {K : Value → World → Prop} (hl : l.length ≤ 1000000) (hr : Reads w 1 (.slice a n c) (ints l)) (hK : K (.bool (l.contains x)) w) :
    CallR Tryd.prog fn_slices_Contains_s_int_int #[.slice a n c, .int .i64 x] w K := by
  have hn : n = l.length := by have := hr.len; simpa [ints] using this
  subst hn
  refine slices_Contains_s_int_int_sound _ _ _ _ _ _ ?_
  refine slices_Index_s_int_int_sound _ _ _ _ _ _ ?_
  refine wLoop (fun k s w' => w' = w ∧ ∃ i : Nat, k + i = l.length ∧ s = (a, l.length, c, x, (l.length : Int), (i : Int)) ∧ ∀ j, j < i → ∀ y, l[j]? = some y → x ≠ y) ⟨l.length, rfl, 0, by omega, rfl, fun j hj => by omega⟩ ?_
  rintro k s w1 ⟨rfl, i, hk, rfl, hz⟩
  refine br (fun h => ?_) (fun h => ?_)
  · have hi : i < l.length := by simp at h; omega
    obtain ⟨y, hy⟩ : ∃ y, l[i]? = some y := ⟨_, List.getElem?_eq_getElem hi⟩
    have hwi : IntKind.wrap .i64 ((i : Int) + 1) = ((i + 1 : Nat) : Int) := by rw [wrap_id (by omega) (by omega)]; rfl
    refine wIXr hr (i := i) (by simpa [ints] using hi) rfl fun ad had => ldI (had.trans (show (ints l)[i]? = some (.int .i64 y) by simp [ints, hy])) ?_
    refine br (fun h => ?_) (fun h => ?_)
    · have hxy : x = y := by simpa using h
      have e : l.contains x = true := by rw [List.contains_iff_mem, hxy]; exact List.mem_of_getElem? hy
      refine mInt_mk ?_
      rw [e] at hK
      have e2 : decide ((i : Int) ≥ 0) = true := by simp
      rw [e2]; exact hK
    · have hxy : x ≠ y := by simpa using h
      refine ⟨k - 1, by omega, rfl, i + 1, by omega, by rw [hwi], fun j hj z hz' => ?_⟩
      by_cases hji : j = i
      · subst hji; rw [hy] at hz'; cases hz'; exact hxy
      · exact hz j (by omega) z hz'
  · have hi : l.length ≤ i := by simp at h; omega
    have e : l.contains x = false := by
      rw [Bool.eq_false_iff, ne_eq, List.contains_iff_mem]
      intro hm
      obtain ⟨j, hj⟩ := List.mem_iff_getElem?.1 hm
      exact hz j (by have := (List.getElem?_eq_some_iff.1 hj).1; omega) x hj rfl
    refine mInt_mk ?_
    rw [e] at hK; exact hK
end
end Go.Proofs.YtnhjcjnjpciifaaDoor
