/- WalTorn, walked. -/
import Derived.Test.YtnhjcjnjpciifaaDoorHWH
namespace Go.Proofs.YtnhjcjnjpciifaaDoor
open Go.Sh
theorem OneFile.len {l : Files} {s : ByteArray} {x : List UInt8 × Nat} (h : OneFile l s x) (hn : (keysOf l).Nodup) : l.length = 1 ∧ total l = x.1.length := by
  have hk := h.keys hn
  cases l with
  | nil => cases hk
  | cons e t =>
    cases t with
    | nil =>
      obtain ⟨a, f⟩ := e
      have ha : a = s := by simpa [keysOf] using hk
      subst ha
      have h2 : look [(a, f)] a = some (f.bs, f.syn) := by unfold look aget; simp
      rw [h.at] at h2
      cases h2
      exact ⟨rfl, by simp [total]⟩
    | cons _ _ => simp [keysOf] at hk
theorem mem_perm {α : Type} {x : α} {L : List α} (h : List.Mem x L) : ∃ M, L.Perm (x :: M) := by
  obtain ⟨s, t, rfl⟩ := List.append_of_mem h
  exact ⟨s ++ t, List.perm_middle⟩
def endsOf (ps : List Bytes) (i : Nat) : List Nat := (List.range i).map fun j => (framesB crc (ps.take (j + 1))).length
theorem endsOf_succ (ps : List Bytes) (i : Nat) : endsOf ps (i + 1) = endsOf ps i ++ [(framesB crc (ps.take (i + 1))).length] := by
  simp [endsOf, List.range_succ]
attribute [local irreducible] rRun LDI LDB LDS LDP LDSl LDM LD Go.Sh.ST AL ALM LetW CallR CallV CallI NN IX SIX Br Req mInt mBool mStr mPtr mSlice mMap mAgg mTup mCons mNil mNth mPA LoopS
attribute [local irreducible] glacierlaw4_WalTorn_b0 glacierlaw4_WalTorn_b3
section
variable {w0 w : World} {F : List Nat} {L : List Own} {K : Value → World → Prop} {db bm p : Nat} {size born : Int} {l : Files} {o : Obj}
theorem nat_snoc {a : Option Addr} {n c b q : Nat} {ks : List Nat} (hl : ks.length ≤ 1000000000) (H : St w0 F w (sliceO 3 1 (.slice a n c) (nats ks) :: L)) (hb : w.heap[b]? = some (.cells #[.int .i64 (q : Int)] 3))
    (hK : ∀ w' a' n' c', St w0 F w' (sliceO 3 1 (.slice a' n' c') (nats (ks ++ [q])) :: L) → K (.slice a' n' c') w') :
    rRun Tryd.prog (Builtin.append_ #[29, 29] 29 #[.slice a n c, .slice (some ⟨b, 0, none⟩) 1 1]) w K := by
  have hr : Reads w 1 (.slice (some ⟨b, 0, none⟩) 1 1) [.int .i64 (q : Int)] := by
    refine ⟨_, _, _, rfl, rfl, Nat.le_refl _, .inr ⟨_, rfl, fun j hj => ?_⟩⟩
    have : j = 0 := by simp at hj; omega
    subst this
    rw [Addr.add_mk, Nat.zero_add, cell_blk hb]
    rfl
  obtain ⟨m, _, hsrc⟩ := hr.src (P := Tryd.prog) (tx := 29) elem_ints.under (by simp [Value.oneCell'])
  refine append_own (t := 29) (n := m) elem_ints (i := 0) H rfl hsrc (by simp [nats]; omega) (by decide) fun v' w8 H hf _ => ?_
  obtain ⟨a', len, cap, rfl, _⟩ := (H.get (i := 0) rfl : SliceAt _ _ _ _ _)
  refine hK _ _ _ _ ?_
  have e6 : nats (ks ++ [q]) = nats ks ++ [.int .i64 (q : Int)] := by simp [nats]
  rw [e6]
  exact H
theorem torn_0 {la ma : Option Addr} {ln lc mn mc : Nat} {ps : List PartR} {more : Bytes} {x : List UInt8 × Nat} {k : Nat} {RR : Value → World → Prop} (h0 : (tabO o).holds w) (hl : ReadsP w (.slice la ln lc) ps) (hm : Reads w 1 (.slice ma mn mc) (bvals more)) (hpl : ps.length ≤ 60) (hp1 : ∀ q ∈ ps, q.bs.length ≤ 1000) (hml : more.length ≤ 1000)
    {w1 : World} (hk : k ≤ (framesB crc (ps.map (·.bs))).length) (hx : x.1 = (framesB crc (ps.map (·.bs))).take k) (hone : OneFile l (seg wNm 5) x)
    (H : St w [2] w1 [dO db bm 16777216 0 l, tabO o]) (fin : ∀ w' L, St w [2] w' L → List.Mem (tabO o) L → RR (.bool true) w') :
    glacierlaw4_WalTorn_b0 la ln lc ma mn mc (some ⟨db, 0, none⟩) (wholeF crc (ps.map (·.bs)) k : Int) RR w1 := by
  unfold glacierlaw4_WalTorn_b0
  have hmn : mn = more.length := by simpa using hm.len
  have hall : ∀ q ∈ ps, q.bs.length ≤ 60000000000 := fun q hq => by have := hp1 q hq; omega
  have hfl := framesB_len_le ps hall
  have hpl2 : plen ps ≤ 60000 := by
    have : ∀ (ps : List PartR), (∀ q ∈ ps, q.bs.length ≤ 1000) → plen ps ≤ 1000 * ps.length := by
      intro ps
      induction ps with
      | nil => intro _; simp [plen]
      | cons q t ih =>
        intro h
        have h1 := ih fun z hz => h z (List.mem_cons_of_mem _ hz)
        have h2 := h q (List.mem_cons_self ..)
        simp only [plen, List.map_cons, List.sum_cons, List.length_cons] at h1 ⊢
        omega
    have := this ps hp1
    omega
  have hbig : ∀ q ∈ ps.map (·.bs), q.length ≤ 67108864 := by
    intro q hq
    obtain ⟨z, hz, rfl⟩ := List.mem_map.1 hq
    have := hp1 z hz; omega
  have hlen := (hone.len (St.nodup H))
  have hkp : kept x.1 = framesB crc ((ps.map (·.bs)).take (wholeF crc (ps.map (·.bs)) k)) := by rw [hx]; exact kept_take hbig hk
  have hld : loads (fun _ => x.1) 5 (5 + 1) = (ps.map (·.bs)).take (wholeF crc (ps.map (·.bs)) k) := by rw [loads_one, hx, rdF_take hbig hk]
  have hwl := wholeF_le (crc := crc) (ps.map (·.bs)) k
  have hkl := kept_len x.1
  have hxl : x.1.length ≤ 60840 := by rw [hx, List.length_take]; omega
  generalize wholeF crc (ps.map (·.bs)) k = n at hkp hld hwl ⊢
  simp only [List.length_map] at hwl
  refine Open_walk (nm := wNm) (f := 5) (s := 5) (by decide) (by decide) (by decide) wNm_ok (hone.log (by decide)) (fun _ => by omega) (by rw [hld]; simp; omega) (by omega) (by omega) (by omega) H (.head _) fun w2 p l2 qs qa qn qc hqs hop H => ?_
  rw [hld] at hqs
  have hone2 := hone.opened hop
  rw [hkp] at hone2
  have hlen2 := (hone2.len (St.nodup H))
  simp only at hlen2
  have hfr2 : (framesB crc ((ps.map (·.bs)).take n)).length ≤ 60840 := by rw [← hkp]; omega
  repeat (first | apply mInt_mk | apply mCons_mk | (apply xC H; rfl; (focus (repeat (first | exact List.Mem.head _ | apply List.Mem.tail | assumption))); rfl) | apply mStr_mk | apply mNil_mk | apply mSlice_mk | (apply xI H; rfl; (focus (repeat (first | exact List.Mem.head _ | apply List.Mem.tail | assumption))); rfl) | (apply xST H; rfl; (focus (repeat (first | exact Upd.here _ | apply Upd.there))); (focus (repeat (first | exact SetAt.zero _ _ | apply SetAt.succ))); rfl; intro w1 H) | (apply xSl H; rfl; (focus (repeat (first | exact List.Mem.head _ | apply List.Mem.tail | assumption))); rfl) | (apply xP H; rfl; (focus (repeat (first | exact List.Mem.head _ | apply List.Mem.tail | assumption))); rfl) | (apply xS H; rfl; (focus (repeat (first | exact List.Mem.head _ | apply List.Mem.tail | assumption))); rfl) | apply nn | (apply wLW H; intro w1 H) | apply mTup_mk | apply mAgg_mk | apply mPtr_mk | apply mBool_mk | (apply xM H; rfl; (focus (repeat (first | exact List.Mem.head _ | apply List.Mem.tail | assumption))); rfl) | (apply xB H; rfl; (focus (repeat (first | exact List.Mem.head _ | apply List.Mem.tail | assumption))); rfl) | apply wEq)
  refine brF (by simp) (brF rfl ?_)
  refine headP_walk (H.readPT h0 (.tail _ (.tail _ (.tail _ (.head _)))) hl) hwl fun _ => mSlice_mk ?_
  have hlw : ∀ w', Fr [] w w' → ReadsP w' (.slice la n lc) (ps.take n) := by
    intro w' hf
    have h1 : ReadsP w (.slice la n lc) (ps.take n) := by
      refine ⟨?_, fun z hz => hl.2 z (List.mem_of_mem_take hz)⟩
      obtain ⟨_, _, _, he, h1, h2, h3⟩ := id hl.1
      cases he
      have hln : ln = ps.length := by simpa using h1
      have h5 := hl.1.sub (l := 0) (h := n) (m := lc) (by omega) (by omega) (by omega)
      have ha : (if lc = 0 then la else la.map (·.add (0 * 1))) = la := by
        split
        · rfl
        · cases la with
          | none => rfl
          | some a => simp [Addr.add]
      rw [ha] at h5
      simpa [List.map_take] using h5
    exact ⟨h1.1.of fun b hb => hf.block b (h1.1.lt (by decide) b hb) (by simp), fun z hz => (h1.2 z hz).of fun b hb => hf.block b ((h1.2 z hz).lt (by decide) b hb) (by simp)⟩
  refine same_walk (ps := qs) (qs := ps.take n) H (fun w' H' => parts_reads (H'.get (i := 2) rfl : (partsO (.slice qa qn qc) qs).holds w')) (fun w' H' => hlw w' (H'.tabFr h0 (.tail _ (.tail _ (.tail _ (.head _)))))) (by have := congrArg List.length hqs; simp at this; omega) fun w3 H => mBool_mk ?_
  have hsame : qs.map (·.bs) = (ps.take n).map (·.bs) := by rw [hqs, List.map_take]
  rw [decide_eq_true hsame]
  refine brF rfl ?_
  refine wAL H fun b3 w4 H => ?_
  have H := H.front (dO db bm 16777216 0 l2)
  have hfm : framesB crc ([(⟨ma, mn, mc, more⟩ : PartR)].map (·.bs)) = framesB crc [more] := rfl
  have hfml : (framesB crc [more]).length ≤ 1014 := by
    have := numB_len more.length 0 (by decide) (by simp; omega)
    simp [framesB, frameB_len]; omega
  refine log_append_walk (ps := [⟨ma, mn, mc, more⟩]) (nm := wNm) (last := 5) (by decide) wNm_ok (by omega) (by simp) (by simp [plen]; omega) (by simp; omega) H (.tail _ (.head _)) (.tail _ (.tail _ (.tail _ (.head _))))
    (fun w' H' => one_part (H'.get (i := 1) rfl) (H'.readT h0 (.tail _ (.tail _ (.tail _ (.tail _ (.head _))))) (by decide) hm)) (fun hf => ?_) fun w5 l3 hl3 ht3 hn3 H => mInt_mk ?_
  · rw [hfm, hlen2.2] at hf; omega
  rw [hfm] at hl3 ht3
  have hone3 : OneFile l3 (seg wNm 5) (framesB crc ((ps.map (·.bs)).take n ++ [more]), (framesB crc ((ps.map (·.bs)).take n)).length) := by
    refine hone2.upd ?_
    rw [hl3, bsOf_look, synOf_look, hone2.at, framesB_append]; rfl
  refine brF rfl ?_
  have hbig2 : ∀ q ∈ (ps.map (·.bs)).take n ++ [more], q.length ≤ 67108864 := by
    intro q hq
    rcases List.mem_append.1 hq with hq | hq
    · exact hbig q (List.mem_of_mem_take hq)
    · rw [List.mem_singleton.1 hq]; omega
  have hkp3 := kept_all hbig2
  have hld3 : loads (fun _ => framesB crc ((ps.map (·.bs)).take n ++ [more])) 5 (5 + 1) = (ps.map (·.bs)).take n ++ [more] := by rw [loads_one, rdF_all hbig2]
  have hlen3 := (hone3.len (St.nodup H))
  have hfr3 : (framesB crc ((ps.map (·.bs)).take n ++ [more])).length ≤ 62000 := by rw [framesB_append, List.length_append]; omega
  simp only at hlen3
  refine Open_walk (nm := wNm) (f := 5) (s := 5) (by decide) (by decide) (by decide) wNm_ok (hone3.log (by decide)) (fun _ => by show (framesB crc ((ps.map (·.bs)).take n ++ [more])).length ≤ _; omega) (by show (loads (fun _ => framesB crc ((ps.map (·.bs)).take n ++ [more])) 5 (5 + 1)).length ≤ _; rw [hld3]; simp; omega) (by omega) (by omega) (by show (total l3 : Int) + (kept (framesB crc ((ps.map (·.bs)).take n ++ [more]))).length ≤ _; rw [hkp3]; omega) H (.tail _ (.tail _ (.tail _ (.head _)))) fun w6 p2 l4 zs za zn zc hzs hop H => ?_
  have hzs : zs.map (·.bs) = (ps.map (·.bs)).take n ++ [more] := hzs.trans hld3
  repeat (first | apply mInt_mk | apply mCons_mk | (apply xC H; rfl; (focus (repeat (first | exact List.Mem.head _ | apply List.Mem.tail | assumption))); rfl) | apply mStr_mk | apply mNil_mk | apply mSlice_mk | (apply xI H; rfl; (focus (repeat (first | exact List.Mem.head _ | apply List.Mem.tail | assumption))); rfl) | (apply xST H; rfl; (focus (repeat (first | exact Upd.here _ | apply Upd.there))); (focus (repeat (first | exact SetAt.zero _ _ | apply SetAt.succ))); rfl; intro w1 H) | (apply xSl H; rfl; (focus (repeat (first | exact List.Mem.head _ | apply List.Mem.tail | assumption))); rfl) | (apply xP H; rfl; (focus (repeat (first | exact List.Mem.head _ | apply List.Mem.tail | assumption))); rfl) | (apply xS H; rfl; (focus (repeat (first | exact List.Mem.head _ | apply List.Mem.tail | assumption))); rfl) | apply nn | (apply wLW H; intro w1 H) | apply mTup_mk | apply mAgg_mk | apply mPtr_mk | apply mBool_mk | (apply xM H; rfl; (focus (repeat (first | exact List.Mem.head _ | apply List.Mem.tail | assumption))); rfl) | (apply xB H; rfl; (focus (repeat (first | exact List.Mem.head _ | apply List.Mem.tail | assumption))); rfl) | apply wEq)
  have hzl : zs.length = n + 1 := by
    have := congrArg List.length hzs
    simp at this; omega
  have htab : List.Mem (tabO o) _ := (.tail _ (.tail _ (.tail _ (.tail _ (.tail _ (.tail _ (.head _)))))) : List.Mem (tabO o) (dO db bm 16777216 0 l4 :: logO p2 db wNm 5 :: partsO (.slice za zn zc) zs :: pt b3 (.cells #[.slice ma mn mc] 41) :: logO p db wNm 5 :: partsO (.slice qa qn qc) qs :: [tabO o]))
  refine brT rfl ?_
  repeat (first | apply mInt_mk | apply mCons_mk | (apply xC H; rfl; (focus (repeat (first | exact List.Mem.head _ | apply List.Mem.tail | assumption))); rfl) | apply mStr_mk | apply mNil_mk | apply mSlice_mk | (apply xI H; rfl; (focus (repeat (first | exact List.Mem.head _ | apply List.Mem.tail | assumption))); rfl) | (apply xST H; rfl; (focus (repeat (first | exact Upd.here _ | apply Upd.there))); (focus (repeat (first | exact SetAt.zero _ _ | apply SetAt.succ))); rfl; intro w1 H) | (apply xSl H; rfl; (focus (repeat (first | exact List.Mem.head _ | apply List.Mem.tail | assumption))); rfl) | (apply xP H; rfl; (focus (repeat (first | exact List.Mem.head _ | apply List.Mem.tail | assumption))); rfl) | (apply xS H; rfl; (focus (repeat (first | exact List.Mem.head _ | apply List.Mem.tail | assumption))); rfl) | apply nn | (apply wLW H; intro w1 H) | apply mTup_mk | apply mAgg_mk | apply mPtr_mk | apply mBool_mk | (apply xM H; rfl; (focus (repeat (first | exact List.Mem.head _ | apply List.Mem.tail | assumption))); rfl) | (apply xB H; rfl; (focus (repeat (first | exact List.Mem.head _ | apply List.Mem.tail | assumption))); rfl) | apply wEq)
  have hzr := parts_reads (H.get (i := 2) rfl : (partsO (.slice za zn zc) zs).holds _)
  have hzn : zn = zs.length := by simpa using hzr.1.len
  subst hzn
  have hwn : IntKind.wrap .i64 ((n : Int) + 1) = ((n + 1 : Nat) : Int) := by rw [wrap_id (by omega) (by omega)]; rfl
  refine brT (by rw [hwn]; simp; omega) ?_
  refine headP_walk (h := n) hzr (by omega) fun hz2 => mSlice_mk (wEq ?_)
  refine headP_walk (H.readPT h0 htab hl) hwl fun _ => mSlice_mk (wEq ?_)
  have hzh : ∀ w', (partsO (.slice za zs.length zc) zs).holds w' → ReadsP w' (.slice za n zc) (zs.take n) := by
    intro w' hh
    have h1 := parts_reads hh
    refine ⟨?_, fun z hz => h1.2 z (List.mem_of_mem_take hz)⟩
    obtain ⟨_, _, _, he, h3, h4, h5⟩ := id h1.1
    cases he
    have h5 := h1.1.sub (l := 0) (h := n) (m := zc) (by omega) (by omega) (by omega)
    have ha : (if zc = 0 then za else za.map (·.add (0 * 1))) = za := by
      split
      · rfl
      · cases za with
        | none => rfl
        | some a => simp [Addr.add]
    rw [ha] at h5
    simpa [List.map_take] using h5
  refine same_walk (ps := zs.take n) (qs := ps.take n) H (fun w' H' => hzh w' (H'.get (i := 2) rfl)) (fun w' H' => hlw w' (H'.tabFr h0 htab)) (by simp; omega) fun w7 H => mBool_mk ?_
  have hsame2 : (zs.take n).map (·.bs) = (ps.take n).map (·.bs) := by
    rw [List.map_take, hzs, List.take_left' (by simp; omega), List.map_take]
  rw [decide_eq_true hsame2]
  refine brT rfl ?_
  obtain ⟨z, hz⟩ : ∃ z, zs[n]? = some z := ⟨_, List.getElem?_eq_getElem (by omega)⟩
  have hzb : z.bs = more := by
    have h1 : (zs.map (·.bs))[n]? = some z.bs := by rw [List.getElem?_map, hz]; rfl
    rw [hzs, List.getElem?_append_right (by simp; omega)] at h1
    have h2 : n - ((ps.map (·.bs)).take n).length = 0 := by simp; omega
    rw [h2] at h1
    simpa using h1.symm
  have hzr := parts_reads (H.get (i := 2) rfl : (partsO (.slice za zs.length zc) zs).holds _)
  refine wIXr hzr.1 (i := n) (by simp; omega) rfl fun ad had => ?_
  rw [List.getElem?_map, hz] at had
  refine ldSl (b := z.a) (l := z.n) (c := z.c) had ?_
  refine wConvS (hzr.2 z (List.mem_of_getElem? hz)) Tryd.underlying41 Tryd.underlying5 Tryd.underlying9 (mStr_mk (wEq ?_))
  refine wConvS (H.readT h0 htab (by decide) hm) Tryd.underlying41 Tryd.underlying5 Tryd.underlying9 (mStr_mk (wEq ?_))
  rw [hzb, beq_self_eq_true]
  exact fin _ _ H htab
end
end Go.Proofs.YtnhjcjnjpciifaaDoor
