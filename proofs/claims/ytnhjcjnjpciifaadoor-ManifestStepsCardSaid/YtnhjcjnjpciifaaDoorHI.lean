/- What the law asks beside: Compare, few, SameVersion. -/
import Derived.Test.YtnhjcjnjpciifaaDoorHH
namespace Go.Proofs.YtnhjcjnjpciifaaDoor
open Go.Sh
attribute [local irreducible] rRun LDI LDB LDS LDP LDSl LDM LD Go.Sh.ST AL ALM LetW CallR CallV CallI NN IX SIX Br Req mInt mBool mStr mPtr mSlice mMap mAgg mTup mCons mNil mNth mPA LoopS
theorem neq_tab (t : Tab) (w : World) : (do eqGuard .neq 38 (.tmp 20) (.tmp 24) (.agg #[.int .i64 t.file, .int .i64 t.level, .string t.first, .string t.last, .int .i64 t.size]) (.agg #[.int .i64 t.file, .int .i64 t.level, .string t.first, .string t.last, .int .i64 t.size]); binOp .neq 38 (.agg #[.int .i64 t.file, .int .i64 t.level, .string t.first, .string t.last, .int .i64 t.size]) (.agg #[.int .i64 t.file, .int .i64 t.level, .string t.first, .string t.last, .int .i64 t.size]) : Sem Value).run Tryd.prog w = .ok (.bool false) w := by
  have u3 := Tryd.underlying3
  have a3 := Tryd.isAgg3
  have z3 := Tryd.sizeOf3
  have u9 := Tryd.underlying9
  have a9 := Tryd.isAgg9
  have z9 := Tryd.sizeOf9
  have hS : Tryd.prog.underlying 38 = some (.struct (Tryd.prog.fieldsOf 38)) := by kernel_rfl
  have hp : Tryd.prog.stoodInHeld 38 = false := by kernel_rfl
  have he : (Op.equalIn 10000 38 (.agg #[.int .i64 t.file, .int .i64 t.level, .string t.first, .string t.last, .int .i64 t.size]) (.agg #[.int .i64 t.file, .int .i64 t.level, .string t.first, .string t.last, .int .i64 t.size])).run Tryd.prog w = .ok true w := by
    rw [show (10000 : Nat) = 9999 + 1 from rfl, run_equalIn_agg w 9999 38 _ _ hS hp]
    simp only [Program.fieldsOf, Tryd.underlying38]
    go_simp
  have hg := run_eqGuard_agg (P := Tryd.prog) w .neq 38 (.tmp 20) (.tmp 24) #[.int .i64 t.file, .int .i64 t.level, .string t.first, .string t.last, .int .i64 t.size] #[.int .i64 t.file, .int .i64 t.level, .string t.first, .string t.last, .int .i64 t.size] (by kernel_rfl)
  rw [Sem.run_bind, hg, Result.andThen_ok, run_neq_struct, he]
  rfl
section
variable {w0 w : World} {F : List Nat} {L M : List Own} {K : Value → World → Prop}
theorem CompareT_walk {x y : Tab} (H : St w0 F w L) (hK : ∀ w', St w0 F w' L → K (.int .i64 (cmpT x y)) w') :
    CallR Tryd.prog fn_manifest_Compare #[.agg #[.int .i64 x.file, .int .i64 x.level, .string x.first, .string x.last, .int .i64 x.size], .agg #[.int .i64 y.file, .int .i64 y.level, .string y.first, .string y.last, .int .i64 y.size]] w K := by
  refine manifest_Compare_sound _ _ _ _ _ _ _ _ _ _ _ _ ?_
  refine wAL H fun p w1 H => wAL H fun q w2 H => ?_
  repeat (first | refine nn ?_ | refine wI H (hK := ?_) | refine wP H (hK := ?_) | refine wM H (hK := ?_) | refine wSl H (hK := ?_) | refine wB H (hK := ?_) | refine wS H (hK := ?_) | refine wEq ?_ | refine wC H (hK := ?_) | (refine wLW H ?_; intro w1 H) | (refine wST H (hK := ?_); intro w1 H _) | refine mSlice_mk ?_ | refine mInt_mk ?_ | refine mBool_mk ?_ | refine mTup_mk ?_ | refine mCons_mk ?_ | refine mNil_mk ?_ | refine mAgg_mk ?_ | refine mPtr_mk ?_ | refine mStr_mk ?_)
  refine CompareI_walk (mInt_mk ?_)
  repeat (first | refine nn ?_ | refine wI H (hK := ?_) | refine wP H (hK := ?_) | refine wM H (hK := ?_) | refine wSl H (hK := ?_) | refine wB H (hK := ?_) | refine wS H (hK := ?_) | refine wEq ?_ | refine wC H (hK := ?_) | (refine wLW H ?_; intro w1 H) | (refine wST H (hK := ?_); intro w1 H _) | refine mSlice_mk ?_ | refine mInt_mk ?_ | refine mBool_mk ?_ | refine mTup_mk ?_ | refine mCons_mk ?_ | refine mNil_mk ?_ | refine mAgg_mk ?_ | refine mPtr_mk ?_ | refine mStr_mk ?_)
  refine CompareS_walk (mInt_mk ?_)
  repeat (first | refine nn ?_ | refine wI H (hK := ?_) | refine wP H (hK := ?_) | refine wM H (hK := ?_) | refine wSl H (hK := ?_) | refine wB H (hK := ?_) | refine wS H (hK := ?_) | refine wEq ?_ | refine wC H (hK := ?_) | (refine wLW H ?_; intro w1 H) | (refine wST H (hK := ?_); intro w1 H _) | refine mSlice_mk ?_ | refine mInt_mk ?_ | refine mBool_mk ?_ | refine mTup_mk ?_ | refine mCons_mk ?_ | refine mNil_mk ?_ | refine mAgg_mk ?_ | refine mPtr_mk ?_ | refine mStr_mk ?_)
  refine CompareI_walk (mInt_mk ?_)
  refine wAL H fun b w3 H => ?_
  have hb : w3.heap[b]? = some (.cells #[.int .i64 (cmpI x.level y.level), .int .i64 (cmpS x.first y.first), .int .i64 (cmpI x.file y.file)] 3) := H.blk (i := 0) rfl
  refine OrI_walk (l := [cmpI x.level y.level, cmpS x.first y.first, cmpI x.file y.file]) (by simp) hb (mInt_mk ?_)
  have e : orL [cmpI x.level y.level, cmpS x.first y.first, cmpI x.file y.file] = cmpT x y := by
    unfold cmpT or3 orL orL orL orL
    split
    · rfl
    · split
      · rfl
      · split
        · rfl
        · rename_i h; simp at h; rw [h]
  rw [e]
  exact hK _ H.tail.tail.tail
theorem sameTables_walk {a b : Option Addr} {n c n' c' : Nat} {l : List Tab} (hl : l.length ≤ 1000000) (H : St w0 F w L) (hra : ∀ w', St w0 F w' L → Reads w' 5 (.slice a n c) (l.flatMap Tab.cells)) (hrb : ∀ w', St w0 F w' L → Reads w' 5 (.slice b n' c') (l.flatMap Tab.cells))
    (hK : ∀ w', St w0 F w' L → K (.bool true) w') : CallR Tryd.prog fn_glacierlaw8_sameTables #[.slice a n c, .slice b n' c'] w K := by
  have h1 := tabs_len (hra w H)
  have h2 := tabs_len (hrb w H)
  subst h1 h2
  refine glacierlaw8_sameTables_sound _ _ _ _ _ _ _ _ ?_
  refine br (fun h => by simp at h) (fun _ => ?_)
  refine wLoop (fun k s w' => ∃ i : Nat, k + i = l.length ∧ s = (a, l.length, c, b, l.length, c', (i : Int)) ∧ St w0 F w' L) ⟨l.length, 0, by omega, rfl, H⟩ ?_
  clear H
  rintro k s w1 ⟨i, hk, rfl, H⟩
  refine br (fun h => ?_) (fun _ => hK _ H)
  have hi : i < l.length := by simp at h; omega
  obtain ⟨t, ht⟩ : ∃ t, l[i]? = some t := ⟨_, List.getElem?_eq_getElem hi⟩
  have hwi : IntKind.wrap .i64 ((i : Int) + 1) = ((i + 1 : Nat) : Int) := by rw [wrap_id (by omega) (by omega)]; rfl
  refine wLW H ?_
  intro w2 H
  refine tab_load (hra w2 H) ht rfl ?_
  refine tab_load (hrb w2 H) ht rfl ?_
  refine rRun_intro (neq_tab t _) (mBool_mk (wEq ?_))
  refine br (fun h => by cases h) (fun _ => ?_)
  exact ⟨k - 1, by omega, i + 1, by omega, by rw [hwi], H⟩
theorem SameVersion_walk {a b : Option Addr} {n c n' c' : Nat} {v : Ver} (hl : v.l.length ≤ 1000000) (H : St w0 F w L) (hra : ∀ w' N, St w0 F w' (N ++ L) → Reads w' 5 (.slice a n c) (v.l.flatMap Tab.cells)) (hrb : ∀ w' N, St w0 F w' (N ++ L) → Reads w' 5 (.slice b n' c') (v.l.flatMap Tab.cells))
    (hK : ∀ w', St w0 F w' L → K (.bool true) w') :
    CallR Tryd.prog fn_glacierlaw8_SameVersion #[.agg #[.slice a n c, .int .u64 v.seq, .int .i64 v.nxt, .int .i64 v.wal], .agg #[.slice b n' c', .int .u64 v.seq, .int .i64 v.nxt, .int .i64 v.wal]] w K := by
  refine glacierlaw8_SameVersion_sound _ _ _ _ _ _ _ _ _ _ _ _ _ _ ?_
  refine wAL H fun p w1 H => wAL H fun q w2 H => ?_
  repeat (first | refine nn ?_ | refine wI H (hK := ?_) | refine wP H (hK := ?_) | refine wM H (hK := ?_) | refine wSl H (hK := ?_) | refine wB H (hK := ?_) | refine wS H (hK := ?_) | refine wEq ?_ | refine wC H (hK := ?_) | (refine wLW H ?_; intro w1 H) | (refine wST H (hK := ?_); intro w1 H _) | refine mSlice_mk ?_ | refine mInt_mk ?_ | refine mBool_mk ?_ | refine mTup_mk ?_ | refine mCons_mk ?_ | refine mNil_mk ?_ | refine mAgg_mk ?_ | refine mPtr_mk ?_ | refine mStr_mk ?_)
  refine sameTables_walk hl H (fun w' H => hra w' [_, _] H) (fun w' H => hrb w' [_, _] H) fun w3 H => mBool_mk ?_
  refine br (fun _ => ?_) (fun h => by cases h)
  repeat (first | refine nn ?_ | refine wI H (hK := ?_) | refine wP H (hK := ?_) | refine wM H (hK := ?_) | refine wSl H (hK := ?_) | refine wB H (hK := ?_) | refine wS H (hK := ?_) | refine wEq ?_ | refine wC H (hK := ?_) | (refine wLW H ?_; intro w1 H) | (refine wST H (hK := ?_); intro w1 H _) | refine mSlice_mk ?_ | refine mInt_mk ?_ | refine mBool_mk ?_ | refine mTup_mk ?_ | refine mCons_mk ?_ | refine mNil_mk ?_ | refine mAgg_mk ?_ | refine mPtr_mk ?_ | refine mStr_mk ?_)
  refine br (fun _ => ?_) (fun h => by simp at h)
  repeat (first | refine nn ?_ | refine wI H (hK := ?_) | refine wP H (hK := ?_) | refine wM H (hK := ?_) | refine wSl H (hK := ?_) | refine wB H (hK := ?_) | refine wS H (hK := ?_) | refine wEq ?_ | refine wC H (hK := ?_) | (refine wLW H ?_; intro w1 H) | (refine wST H (hK := ?_); intro w1 H _) | refine mSlice_mk ?_ | refine mInt_mk ?_ | refine mBool_mk ?_ | refine mTup_mk ?_ | refine mCons_mk ?_ | refine mNil_mk ?_ | refine mAgg_mk ?_ | refine mPtr_mk ?_ | refine mStr_mk ?_)
  refine br (fun _ => ?_) (fun h => by simp at h)
  repeat (first | refine nn ?_ | refine wI H (hK := ?_) | refine wP H (hK := ?_) | refine wM H (hK := ?_) | refine wSl H (hK := ?_) | refine wB H (hK := ?_) | refine wS H (hK := ?_) | refine wEq ?_ | refine wC H (hK := ?_) | (refine wLW H ?_; intro w1 H) | (refine wST H (hK := ?_); intro w1 H _) | refine mSlice_mk ?_ | refine mInt_mk ?_ | refine mBool_mk ?_ | refine mTup_mk ?_ | refine mCons_mk ?_ | refine mNil_mk ?_ | refine mAgg_mk ?_ | refine mPtr_mk ?_ | refine mStr_mk ?_)
  have e : ((v.wal : Int) == v.wal) = true := by simp
  rw [e]
  exact hK _ H.tail.tail
theorem few_walk {ea da : Option Addr} {en ec dn dc : Nat} {e : EditP} (hal : e.add.length ≤ 9223372036854775807) (H : St w0 F w L) (hra : ∀ w' N, St w0 F w' (N ++ L) → Reads w' 5 (.slice ea en ec) (e.add.flatMap Tab.cells)) (hrd : ∀ w' N, St w0 F w' (N ++ L) → Reads w' 1 (.slice da dn dc) (ints e.drop))
    (hK : ∀ (q : Bool) w', (q = true → e.add.length ≤ 20 ∧ e.drop.length ≤ 20) → St w0 F w' L → K (.bool q) w') :
    CallR Tryd.prog fn_glacierlaw8_few #[.agg #[.slice ea en ec, .slice da dn dc, .int .u64 e.seq, .int .i64 e.nxt, .int .i64 e.wal]] w K := by
  have h1 := tabs_len (hra w [] H)
  have h2 : dn = e.drop.length := by have := (hrd w [] H).len; simpa [ints] using this
  subst h1 h2
  refine glacierlaw8_few_sound _ _ _ _ _ _ _ _ _ _ _ ?_
  refine wAL H fun p w1 H => ?_
  refine wLoop (fun k s w' => ∃ (i : Nat) (n : Int), k + i = e.add.length ∧ s = (⟨p, 0, none⟩, n, (i : Int)) ∧ St w0 F w' (edO p (.slice ea e.add.length ec) (.slice da e.drop.length dc) e :: L)) ⟨e.add.length, 0, 0, by omega, rfl, H⟩ ?_
  clear H
  rintro k s w2 ⟨i, n, hk, rfl, H⟩
  refine wSl H (b := p) (j := 0) (hK := ?_)
  refine br (fun h => ?_) (fun h => ?_)
  · have hi : i < e.add.length := by simp at h; omega
    obtain ⟨t, ht⟩ : ∃ t, e.add[i]? = some t := ⟨_, List.getElem?_eq_getElem hi⟩
    have hwi : IntKind.wrap .i64 ((i : Int) + 1) = ((i + 1 : Nat) : Int) := by rw [wrap_id (by omega) (by omega)]; rfl
    refine wLW H ?_
    intro w3 H
    have hr := hra w3 [_] H
    refine wSl H (b := p) (j := 0) (hK := ?_)
    refine wIXt hr ht rfl fun ad ha => ldS (ha 2 _ rfl) (wEq ?_)
    refine wSl H (b := p) (j := 0) (hK := ?_)
    refine wIXt hr ht rfl fun ad ha => ldS (ha 3 _ rfl) (wEq ?_)
    exact ⟨k - 1, by omega, i + 1, _, by omega, by rw [hwi], H⟩
  · refine wSl H (b := p) (j := 0) (hK := ?_)
    refine br (fun h3 => ?_) (fun _ => hK false _ (fun h => by cases h) H.tail)
    refine wSl H (b := p) (j := 1) (hK := ?_)
    refine br (fun h4 => ?_) (fun _ => hK false _ (fun h => by cases h) H.tail)
    exact hK _ _ (fun _ => by simp at h3 h4; omega) H.tail
end
end Go.Proofs.YtnhjcjnjpciifaaDoor
