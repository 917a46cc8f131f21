/- The bags and the reference's messages: when they are the same; what keeps them so. -/
import Derived.Test.YtienifnpacoahaaHQC
namespace Go.Proofs.Ytienifnpacoahaa
open Go.Sh

def bagR (rl : List RMsg) (k : Int × Int) : List (List UInt8) := (rl.filter (isK k.1 k.2)).map (·.bs)
theorem bagR_len (rl : List RMsg) (f t : Int) : (bagR rl (f, t)).length = cnt rl f t := by simp [bagR, cnt]
def RowsOk (l : Bags) : Prop := ∀ e ∈ l, e.2.2 ≠ []
structure RefOk (nd bd : Int) (rl : List RMsg) : Prop where
  inn : ∀ m ∈ rl, (0 ≤ m.f ∧ m.f < nd) ∧ 0 ≤ m.t ∧ m.t < nd
  cap : ∀ f t, (cnt rl f t : Int) ≤ bd
  small : ∀ m ∈ rl, m.bs.length ≤ 1000
structure Same (nd bd : Int) (l : Bags) (rl : List RMsg) : Prop where
  bags : cts l = bagR rl
  rows : RowsOk l
  ref : RefOk nd bd rl
theorem isK_iff {f t : Int} {m : RMsg} : isK f t m = true ↔ m.f = f ∧ m.t = t := by simp [isK]

theorem mem_aput' {β : Type} {l : List ((Int × Int) × β)} {k : Int × Int} {x : β} : ∀ e ∈ aput l k x, e ∈ l ∨ e = (k, x) := by
  induction l with
  | nil => intro e he; simp [aput] at he; exact .inr he
  | cons y t ih =>
    obtain ⟨a, u⟩ := y
    intro e he
    simp only [aput] at he
    split at he
    · rename_i hk
      rcases List.mem_cons.1 he with rfl | he
      · exact .inr (by rw [hk])
      · exact .inl (List.mem_cons_of_mem _ he)
    · rcases List.mem_cons.1 he with rfl | he
      · exact .inl (List.mem_cons_self ..)
      · rcases ih e he with h | h
        · exact .inl (List.mem_cons_of_mem _ h)
        · exact .inr h
theorem RowsOk.put {l : Bags} (h : RowsOk l) {k : Int × Int} {x : Row} (hx : x.2 ≠ []) : RowsOk (aput l k x) := fun e he => by
  rcases mem_aput' e he with he | rfl
  · exact h e he
  · exact hx
theorem RowsOk.out {l : Bags} (h : RowsOk l) (k : Int × Int) (i : Nat) (v : Value) : RowsOk (outB l k i v) := by
  unfold outB
  split
  · exact fun e he => h e ((adel_sublist l k).subset he)
  · rename_i hne
    exact h.put hne
theorem Sent.rows {nd bd f : Int} {bs : List UInt8} {l l' : Bags} {ts : List Int} {c : Nat} (h : Sent nd bd f bs l ts l' c) (hr : RowsOk l) : RowsOk l' := by
  induction h with
  | nil => exact hr
  | lay v m _ _ ih => exact ih.put (by simp)
  | skip _ _ ih => exact ih

theorem cnt_snoc (l : List RMsg) (m : RMsg) (f t : Int) : cnt (l ++ [m]) f t = cnt l f t + if isK f t m then 1 else 0 := by
  unfold cnt
  rw [List.filter_append, List.length_append]
  cases hq : isK f t m <;> simp [hq]
theorem bagR_snoc (l : List RMsg) (m : RMsg) (k : Int × Int) : bagR (l ++ [m]) k = if k = (m.f, m.t) then bagR l k ++ [m.bs] else bagR l k := by
  unfold bagR
  rw [List.filter_append, List.map_append]
  split
  · rename_i h
    subst h
    simp [isK]
  · rename_i h
    have : isK k.1 k.2 m = false := by
      rw [Bool.eq_false_iff]
      intro hc
      obtain ⟨h1, h2⟩ := isK_iff.1 hc
      exact h (by rw [h1, h2])
    simp [this]
theorem RefOk.snoc {nd bd : Int} {l : List RMsg} (h : RefOk nd bd l) {f t : Int} {v : Value} {bs : List UInt8} (hg : goesR nd bd l f t) (hbs : bs.length ≤ 1000) : RefOk nd bd (l ++ [⟨f, t, v, bs⟩]) := by
  refine ⟨fun m hm => ?_, fun f' t' => ?_, fun m hm => ?_⟩
  · rcases List.mem_append.1 hm with hm | hm
    · exact h.inn m hm
    · rw [List.mem_singleton.1 hm]; exact ⟨hg.1, hg.2.1⟩
  · rw [cnt_snoc]
    have h1 := h.cap f' t'
    cases hq : isK f' t' ⟨f, t, v, bs⟩ with
    | false => simp; exact h1
    | true =>
      obtain ⟨rfl, rfl⟩ := isK_iff.1 hq
      have := hg.2.2
      simp only [if_true] at this ⊢
      omega
  · rcases List.mem_append.1 hm with hm | hm
    · exact h.small m hm
    · rw [List.mem_singleton.1 hm]; exact hbs
theorem SentR.ok {nd bd f : Int} {bs : List UInt8} {l l' : List RMsg} {ts : List Int} {c : Nat} (h : SentR nd bd f bs l ts l' c) (hr : RefOk nd bd l) (hbs : bs.length ≤ 1000) : RefOk nd bd l' := by
  induction h with
  | nil => exact hr
  | lay v _ hg ih => exact ih.snoc hg hbs
  | skip _ _ ih => exact ih
theorem SentR.bags {nd bd f : Int} {bs : List UInt8} {l l' : List RMsg} {ts : List Int} {c : Nat} (h : SentR nd bd f bs l ts l' c) : (bagR l', c) = ts.foldl (stepA nd bd f bs) (bagR l, 0) := by
  induction h with
  | nil => rfl
  | @lay ts l1 c t v _ hg ih =>
    rw [List.foldl_append, ← ih, List.foldl_cons, List.foldl_nil]
    unfold stepA
    simp only
    unfold goesR at hg
    rw [bagR_len, if_pos hg]
    congr 1
    funext k
    rw [bagR_snoc]
    split
    · rename_i h; rw [h]
    · rfl
  | skip _ hg ih =>
    rw [List.foldl_append, ← ih, List.foldl_cons, List.foldl_nil]
    unfold stepA
    simp only
    unfold goesR at hg
    rw [bagR_len, if_neg hg]
theorem Same.send {nd bd f : Int} {bs : List UInt8} {l l' : Bags} {rl rl' : List RMsg} {ts : List Int} {c c' : Nat} (h : Same nd bd l rl) (h1 : Sent nd bd f bs l ts l' c) (h2 : SentR nd bd f bs rl ts rl' c') (hbs : bs.length ≤ 1000) :
    Same nd bd l' rl' ∧ c = c' := by
  have e1 := h1.cts
  have e2 := h2.bags
  rw [h.bags, ← e2] at e1
  exact ⟨⟨congrArg Prod.fst e1, h1.rows h.rows, h2.ok h.ref hbs⟩, congrArg Prod.snd e1⟩

theorem nth_spec {f t : Int} : ∀ {l : List RMsg} {q i : Nat}, nth f t l q = some i → ∃ m, l[i]? = some m ∧ isK f t m = true ∧ (l.filter (isK f t))[q]? = some m ∧ (l.eraseIdx i).filter (isK f t) = (l.filter (isK f t)).eraseIdx q ∧
    ∀ f' t', (f', t') ≠ (f, t) → (l.eraseIdx i).filter (isK f' t') = l.filter (isK f' t')
  | [], q, i, h => by simp [nth] at h
  | m :: r, q, i, h => by
    simp only [nth] at h
    cases hm : isK f t m with
    | true =>
      rw [hm] at h
      simp only [if_true] at h
      by_cases hq : q = 0
      · subst hq
        simp only [if_true] at h
        cases h
        refine ⟨m, rfl, hm, by simp [hm], by simp [hm], fun f' t' hne => ?_⟩
        have : isK f' t' m = false := by
          rw [Bool.eq_false_iff]
          intro hc
          obtain ⟨h1, h2⟩ := isK_iff.1 hc
          obtain ⟨h3, h4⟩ := isK_iff.1 hm
          exact hne (by rw [← h1, ← h2, h3, h4])
        simp [this]
      · simp only [hq, if_false] at h
        obtain ⟨j, hj, rfl⟩ := Option.map_eq_some_iff.1 h
        obtain ⟨m', h1, h2, h3, h4, h5⟩ := nth_spec hj
        obtain ⟨q', rfl⟩ : ∃ q', q = q' + 1 := ⟨q - 1, by omega⟩
        simp only [Nat.add_sub_cancel] at h3 h4
        refine ⟨m', by simpa using h1, h2, by simpa [hm] using h3, by simp [hm, h4], fun f' t' hne => ?_⟩
        rw [List.eraseIdx_cons_succ, List.filter_cons, List.filter_cons, h5 f' t' hne]
    | false =>
      rw [hm] at h
      simp only [Bool.false_eq_true, if_false] at h
      obtain ⟨j, hj, rfl⟩ := Option.map_eq_some_iff.1 h
      obtain ⟨m', h1, h2, h3, h4, h5⟩ := nth_spec hj
      refine ⟨m', by simpa using h1, h2, by simpa [hm] using h3, by simp [hm, h4], fun f' t' hne => ?_⟩
      rw [List.eraseIdx_cons_succ, List.filter_cons, List.filter_cons, h5 f' t' hne]

theorem Same.len {nd bd : Int} {l : Bags} {rl : List RMsg} (h : Same nd bd l rl) (f t : Int) : (row l (f, t)).2.length = cnt rl f t := by
  rw [cts_len, h.bags, bagR_len]
theorem Same.none_iff {nd bd : Int} {l : Bags} {rl : List RMsg} (h : Same nd bd l rl) (f t p : Int) : pickR rl f t p = none ↔ (row l (f, t)).2 = [] := by
  rw [← List.length_eq_zero_iff, h.len]
  unfold pickR
  by_cases hc : cnt rl f t = 0
  · simp [hc]
  · rw [if_neg hc]
    obtain ⟨i, hi, _⟩ := nth_some (pickI_lt (p := p) (n := cnt rl f t) (by omega))
    rw [hi]
    simp [hc]
theorem pickR_some {rl : List RMsg} {f t p : Int} {i : Nat} (h : pickR rl f t p = some i) : nth f t rl (pickI p (cnt rl f t)) = some i := by
  unfold pickR at h
  split at h
  · cases h
  · exact h
theorem RefOk.erase {nd bd : Int} {l : List RMsg} (h : RefOk nd bd l) (i : Nat) : RefOk nd bd (l.eraseIdx i) := by
  have hs := List.eraseIdx_sublist l i
  refine ⟨fun m hm => h.inn m (hs.subset hm), fun f t => ?_, fun m hm => h.small m (hs.subset hm)⟩
  have h1 := (hs.filter (isK f t)).length_le
  have h2 := h.cap f t
  unfold cnt at h2 ⊢
  omega
/-- Delivering keeps them the same, and tells the same bytes. -/
theorem Same.out {nd bd f t p : Int} {l : Bags} {rl : List RMsg} {i : Nat} {m : RMsg} {m' : Msg} (h : Same nd bd l rl) (hnd : (l.map (·.1)).Nodup) (hp : pickR rl f t p = some i) (hm : rl[i]? = some m) (hm' : (row l (f, t)).2[pickI p (row l (f, t)).2.length]? = some m') (v : Value) :
    Same nd bd (outB l (f, t) (pickI p (row l (f, t)).2.length) v) (rl.eraseIdx i) ∧ m.f = f ∧ m.t = t ∧ m'.2 = m.bs := by
  have hn := pickR_some hp
  obtain ⟨m2, h1, h2, h3, h4, h5⟩ := nth_spec hn
  rw [hm] at h1
  cases h1
  obtain ⟨hf, ht⟩ := isK_iff.1 h2
  have hlen := h.len f t
  have hcg := cts_get hm'
  rw [hlen] at hcg ⊢
  have hbg : (bagR rl (f, t))[pickI p (cnt rl f t)]? = some m.bs := by
    unfold bagR
    rw [List.getElem?_map, h3]; rfl
  refine ⟨⟨?_, h.rows.out _ _ _, h.ref.erase i⟩, hf, ht, ?_⟩
  · have hbe : bagR (rl.eraseIdx i) (f, t) = (bagR rl (f, t)).eraseIdx (pickI p (cnt rl f t)) := by
      unfold bagR
      rw [h4, ← map_eraseIdx']
    have hbo : ∀ k, k ≠ (f, t) → bagR (rl.eraseIdx i) k = bagR rl k := fun k hk => by
      unfold bagR
      rw [h5 k.1 k.2 hk]
    funext k
    by_cases hk : k = (f, t)
    · subst hk
      rw [hbe, ← h.bags]
      unfold outB
      split
      · rename_i he
        have h6 : ((row l (f, t)).2.eraseIdx (pickI p (cnt rl f t))).map (·.2) = (cts l (f, t)).eraseIdx (pickI p (cnt rl f t)) := (map_eraseIdx' _ _ _).symm
        rw [← h6, he]
        unfold cts row
        rw [aget_adel_self hnd]
        rfl
      · unfold cts
        rw [row_aput]
        exact (map_eraseIdx' _ _ _).symm
    · rw [hbo k hk, ← h.bags]
      unfold outB
      split
      · unfold cts row
        rw [aget_adel_other hk]
      · unfold cts
        rw [row_aput_ne _ _ hk]
  · have : (cts l (f, t))[pickI p (cnt rl f t)]? = (bagR rl (f, t))[pickI p (cnt rl f t)]? := by rw [h.bags]
    rw [hcg, hbg] at this
    exact Option.some.inj this
theorem Same.double {nd bd f t : Int} {l : Bags} {rl : List RMsg} {bs : List UInt8} {v m' v' : Value} (h : Same nd bd l rl) (hg : goesR nd bd rl f t) (hbs : bs.length ≤ 1000) :
    Same nd bd (aput l (f, t) (v, (row l (f, t)).2 ++ [(m', bs)])) (rl ++ [⟨f, t, v', bs⟩]) := by
  refine ⟨?_, h.rows.put (by simp), h.ref.snoc hg hbs⟩
  rw [cts_put, h.bags]
  funext k
  rw [bagR_snoc]
  split
  · rename_i hk; rw [hk]
  · rfl
theorem aget_filter {β : Type} {l : List ((Int × Int) × β)} (p : (Int × Int) → Bool) (k : Int × Int) : aget (l.filter fun e => p e.1) k = if p k then aget l k else none := by
  induction l with
  | nil => simp [aget]
  | cons e t ih =>
    obtain ⟨a, u⟩ := e
    rw [List.filter_cons]
    by_cases hpa : p a = true
    · simp only [hpa, if_true, aget]
      by_cases hk : k = a
      · subst hk; simp [hpa]
      · simp only [hk, if_false]; exact ih
    · simp only [hpa, aget]
      rw [if_neg (by decide), ih]
      by_cases hk : k = a
      · subst hk; simp [hpa]
      · simp only [hk, if_false]
theorem Same.clear {nd bd node : Int} {l : Bags} {rl : List RMsg} (h : Same nd bd l rl) : Same nd bd (cleared node l) (rl.filter (keepR node)) := by
  have hs := List.filter_sublist (l := rl) (p := keepR node)
  refine ⟨?_, fun e he => h.rows e (List.mem_filter.1 he).1, ⟨fun m hm => h.ref.inn m (hs.subset hm), fun f t => ?_, fun m hm => h.ref.small m (hs.subset hm)⟩⟩
  · funext k
    have e1 : cts (cleared node l) k = if !hits node k then cts l k else [] := by
      unfold cts row cleared
      rw [aget_filter (fun k => !hits node k)]
      split <;> rfl
    rw [e1, h.bags]
    unfold bagR
    rw [List.filter_filter]
    cases hh : hits node k with
    | true =>
      simp only [Bool.not_true, Bool.false_eq_true, if_false]
      rw [List.filter_eq_nil_iff.2, List.map_nil]
      intro m _ hc
      rw [Bool.and_eq_true] at hc
      obtain ⟨h1, h2⟩ := isK_iff.1 hc.1
      have h3 := hc.2
      simp [keepR] at h3
      simp [hits] at hh
      rw [h1, h2] at h3
      rcases hh with hh | hh
      · exact h3.1 hh
      · exact h3.2 hh
    | false =>
      simp only [Bool.not_false, if_true]
      congr 1
      apply List.filter_congr
      intro m _
      cases hq : isK k.1 k.2 m with
      | false => rfl
      | true =>
        obtain ⟨h1, h2⟩ := isK_iff.1 hq
        unfold keepR
        unfold hits at hh
        rw [h1, h2]
        revert hh
        simp [bne]
  · have h1 := (hs.filter (isK f t)).length_le
    have h2 := h.ref.cap f t
    unfold cnt at h2 ⊢
    omega
/-- All that is held. -/
theorem total_bags : ∀ {l : Bags} {rl : List RMsg}, (l.map (·.1)).Nodup → cts l = bagR rl → total l = rl.length
  | [], rl, _, h => by
    cases rl with
    | nil => rfl
    | cons m r =>
      exact absurd (congrFun h (m.f, m.t)) (by simp [bagR, isK, cts, row, aget])
  | e :: l, rl, hn, h => by
    rw [List.map_cons, List.nodup_cons] at hn
    obtain ⟨k, x⟩ := e
    have hk : aget l k = none := aget_none.2 fun y hy hc => hn.1 (List.mem_map.2 ⟨y, hy, hc⟩)
    have ih := total_bags (l := l) (rl := rl.filter fun m => !isK k.1 k.2 m) hn.2 (by
      funext j
      have hj := congrFun h j
      unfold bagR
      rw [List.filter_filter]
      by_cases hjk : j = k
      · subst hjk
        have e1 : cts l j = [] := by unfold cts row; rw [hk]; rfl
        rw [e1, List.filter_eq_nil_iff.2, List.map_nil]
        intro m _ hc
        simp at hc
      · have e1 : cts l j = cts ((k, x) :: l) j := by unfold cts row; simp [aget, hjk]
        rw [e1, hj]
        unfold bagR
        congr 1
        apply List.filter_congr
        intro m _
        cases hq : isK j.1 j.2 m with
        | false => simp
        | true =>
          have : isK k.1 k.2 m = false := by
            rw [Bool.eq_false_iff]
            intro hc
            obtain ⟨h1, h2⟩ := isK_iff.1 hq
            obtain ⟨h3, h4⟩ := isK_iff.1 hc
            exact hjk (Prod.ext (h1.symm.trans h3) (h2.symm.trans h4))
          simp [this])
    have hx : x.2.length = cnt rl k.1 k.2 := by
      have hk2 := congrArg List.length (congrFun h k)
      rw [show bagR rl k = bagR rl (k.1, k.2) from rfl, bagR_len] at hk2
      simpa [cts, row, aget] using hk2
    have hsplit : (rl.filter (isK k.1 k.2)).length + (rl.filter fun m => !isK k.1 k.2 m).length = rl.length := by
      rw [← List.length_append]
      exact (List.filter_append_perm (isK k.1 k.2) rl).length_eq
    unfold total at ih ⊢
    rw [List.map_cons, List.sum_cons, ih, hx]
    exact hsplit
end Go.Proofs.Ytienifnpacoahaa
