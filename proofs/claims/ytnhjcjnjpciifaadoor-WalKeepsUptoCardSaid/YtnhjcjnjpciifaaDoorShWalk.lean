/- Steps that find by themselves what they need among what is held. -/
import Derived.Test.YtnhjcjnjpciifaaDoorShMaps
import Derived.Lib.SliceRun
import Derived.Lib.SlBytesConst
import Derived.Laws.BytesArg
import Derived.Laws.IdiomStrings
namespace Go.Sh
variable {P : Program}

def elemOk (P : Program) (E sz bytes : Nat) : Bool :=
  match P.info? E with
  | some i => (match i.zero with | some z => Nat.beq i.size sz && Nat.beq i.bytes bytes && Nat.beq z.cells.size sz && Nat.ble 1 sz | none => false)
  | none => false
theorem elemTy_of {t E sz bytes : Nat} (h1 : P.underlying t = some (.slice E)) (h2 : elemOk P E sz bytes = true) : ElemTy P t E sz bytes := by
  unfold elemOk at h2
  cases hi : P.info? E with
  | none => rw [hi] at h2; cases h2
  | some i =>
    rw [hi] at h2
    simp only at h2
    cases hz : i.zero with
    | none => rw [hz] at h2; cases h2
    | some z =>
      rw [hz] at h2
      simp only [Bool.and_eq_true, Nat.ble_eq] at h2
      obtain ⟨⟨⟨h3, h4⟩, h5⟩, h6⟩ := h2
      exact ⟨h1, ⟨i, z, hi, hz, Nat.eq_of_beq_eq_true h3, Nat.eq_of_beq_eq_true h4, Nat.eq_of_beq_eq_true h5⟩, h6⟩
theorem mapTy_of {κ : Type} [DecidableEq κ] {t K E : TypeId} {enc : κ → Value} (h1 : P.underlying t = some (.map K E)) (hk : KeyTy P K enc) (h2 : ((P.info? E).bind (·.zero)).isSome = true) : MapTy P t enc := by
  cases hi : P.info? E with
  | none => rw [hi] at h2; cases h2
  | some i =>
    rw [hi] at h2
    simp only [Option.bind_some] at h2
    obtain ⟨z, hz⟩ := Option.isSome_iff_exists.1 h2
    exact ⟨K, E, z, i, h1, hk, hi, hz⟩

/-- A list with one place turned. -/
inductive SetAt (v : Value) : List Value → Nat → List Value → Prop
  | zero (x : Value) (l : List Value) : SetAt v (x :: l) 0 (v :: l)
  | succ {x : Value} {l l' : List Value} {n : Nat} : SetAt v l n l' → SetAt v (x :: l) (n + 1) (x :: l')
theorem SetAt.eq {v : Value} {l l' : List Value} {n : Nat} (h : SetAt v l n l') : l.toArray.setIfInBounds n v = l'.toArray ∧ n < l.toArray.size := by
  induction h with
  | zero x l => exact ⟨by simp, by simp⟩
  | succ _ ih =>
    obtain ⟨h1, h2⟩ := ih
    refine ⟨?_, by simpa using h2⟩
    simp only [List.setIfInBounds_toArray, List.set_cons_succ] at h1 ⊢
    have := congrArg Array.toList h1
    simp only at this
    rw [this]

inductive Upd (x y : Own) : List Own → List Own → Prop
  | here (L : List Own) : Upd x y (x :: L) (y :: L)
  | there (z : Own) {L M : List Own} : Upd x y L M → Upd x y (z :: L) (z :: M)
theorem Upd.idx {x y : Own} {L M : List Own} (h : Upd x y L M) : ∃ i : Nat, L[i]? = some x ∧ M = L.set i y := by
  induction h with
  | here L => exact ⟨0, rfl, rfl⟩
  | there z _ ih => obtain ⟨i, h1, h2⟩ := ih; exact ⟨i + 1, by simpa using h1, by simp [h2]⟩
inductive Rem (x : Own) : List Own → List Own → Prop
  | here (L : List Own) : Rem x (x :: L) L
  | there (z : Own) {L M : List Own} : Rem x L M → Rem x (z :: L) (z :: M)
theorem Rem.perm {x : Own} {L M : List Own} (h : Rem x L M) : L.Perm (x :: M) := by
  induction h with
  | here L => exact .refl _
  | there z _ ih => exact (ih.cons z).trans (.swap x z _)
inductive Take : List Own → List Own → List Own → Prop
  | nil (L : List Own) : Take [] L L
  | cons {x : Own} {A L M B : List Own} : Rem x L M → Take A M B → Take (x :: A) L B
theorem Take.perm {A L B : List Own} (h : Take A L B) : L.Perm (A ++ B) := by
  induction h with
  | nil L => exact .refl _
  | cons h1 _ ih => exact h1.perm.trans (ih.cons _)

section
variable {w0 w : World} {F : List Nat} {L : List Own} {a : Addr} {c : Array Value} {e : TypeId} {fz : Nat × Nat}
theorem St.at {b j : Nat} (H : St w0 F w L) {v : Value} (ha : a = ⟨b, j, none⟩) (hu : List.Mem (pt b (.cells c e fz)) L) (hc : c[j]? = some v) : w.cell? a = some v := by
  rw [ha, cell_blk (H.has.all _ hu)]; exact hc
theorem wI {b j : Nat} {k : IntKind} {x : Int} {K : Int → Prop} (H : St w0 F w L) (ha : a = ⟨b, j, none⟩ := by rfl) (hu : List.Mem (pt b (.cells c e fz)) L := by repeat (first | exact .head _ | apply List.Mem.tail | assumption))
    (hc : c[j]? = some (.int k x) := by rfl) (hK : K x) : LDI k w a K := ⟨x, H.at ha hu hc, hK⟩
theorem wB {b j : Nat} {x : Bool} {K : Bool → Prop} (H : St w0 F w L) (ha : a = ⟨b, j, none⟩ := by rfl) (hu : List.Mem (pt b (.cells c e fz)) L := by repeat (first | exact .head _ | apply List.Mem.tail | assumption))
    (hc : c[j]? = some (.bool x) := by rfl) (hK : K x) : LDB w a K := ⟨x, H.at ha hu hc, hK⟩
theorem wS {b j : Nat} {x : ByteArray} {K : ByteArray → Prop} (H : St w0 F w L) (ha : a = ⟨b, j, none⟩ := by rfl) (hu : List.Mem (pt b (.cells c e fz)) L := by repeat (first | exact .head _ | apply List.Mem.tail | assumption))
    (hc : c[j]? = some (.string x) := by rfl) (hK : K x) : LDS w a K := ⟨x, H.at ha hu hc, hK⟩
theorem wP {b j : Nat} {x : Option Addr} {K : Option Addr → Prop} (H : St w0 F w L) (ha : a = ⟨b, j, none⟩ := by rfl) (hu : List.Mem (pt b (.cells c e fz)) L := by repeat (first | exact .head _ | apply List.Mem.tail | assumption))
    (hc : c[j]? = some (.pointer x) := by rfl) (hK : K x) : LDP w a K := ⟨x, H.at ha hu hc, hK⟩
theorem wM {b j : Nat} {x : Option Nat} {K : Option Nat → Prop} (H : St w0 F w L) (ha : a = ⟨b, j, none⟩ := by rfl) (hu : List.Mem (pt b (.cells c e fz)) L := by repeat (first | exact .head _ | apply List.Mem.tail | assumption))
    (hc : c[j]? = some (.map x) := by rfl) (hK : K x) : LDM w a K := ⟨x, H.at ha hu hc, hK⟩
theorem wSl {b j : Nat} {x : Option Addr} {n m : Nat} {K : Option Addr → Nat → Nat → Prop} (H : St w0 F w L) (ha : a = ⟨b, j, none⟩ := by rfl) (hu : List.Mem (pt b (.cells c e fz)) L := by repeat (first | exact .head _ | apply List.Mem.tail | assumption))
    (hc : c[j]? = some (.slice x n m) := by rfl) (hK : K x n m) : LDSl w a K := ⟨x, n, m, H.at ha hu hc, hK⟩
theorem wV {b j : Nat} {v : Value} {K : Value → Prop} (H : St w0 F w L) (ha : a = ⟨b, j, none⟩ := by rfl) (hu : List.Mem (pt b (.cells c e fz)) L := by repeat (first | exact .head _ | apply List.Mem.tail | assumption))
    (hc : c[j]? = some v := by rfl) (hK : K v) : LD w a K := ⟨v, H.at ha hu hc, hK⟩
/-- A cell that is asked again. -/
theorem wC {b j : Nat} {v : Value} {K : Prop} (H : St w0 F w L) (ha : a = ⟨b, j, none⟩ := by rfl) (hu : List.Mem (pt b (.cells c e fz)) L := by repeat (first | exact .head _ | apply List.Mem.tail | assumption))
    (hc : c[j]? = some v := by rfl) (hK : K) : w.cell? a = some v ∧ K := ⟨H.at ha hu hc, hK⟩
theorem wST {b j : Nat} {v : Value} {l l' : List Value} {K : World → Prop} {M : List Own} (H : St w0 F w L) (ha : a = ⟨b, j, none⟩ := by rfl)
    (hu : Upd (pt b (.cells l.toArray e fz)) (pt b (.cells l'.toArray e fz)) L M := by repeat (first | exact .here _ | apply Upd.there))
    (hs : SetAt v l j l' := by repeat (first | exact .zero _ _ | apply SetAt.succ)) (hf : (decide (fz.1 ≤ j) && decide (j < fz.2)) = false := by rfl)
    (hK : ∀ w', St w0 F w' M → Fr [b] w w' → K w') : ST w a v K := by
  obtain ⟨i, hi, rfl⟩ := hu.idx
  obtain ⟨h1, h2⟩ := hs.eq
  refine st H i j hi ha h2 hf ?_
  rw [h1]
  exact hK
theorem wAL {o : Obj} {K : Addr → World → Prop} (H : St w0 F w L) (hK : ∀ b w', St w0 F w' (pt b o :: L) → K ⟨b, 0, none⟩ w') : AL w o K :=
  hK _ _ (H.alloc o)
theorem wALM {o : Obj} {K : Nat → World → Prop} (H : St w0 F w L) (hK : ∀ b w', St w0 F w' (pt b o :: L) → K b w') : ALM w o K :=
  hK _ _ (H.alloc o)
theorem wLW {K : World → Prop} (H : St w0 F w L) (hK : ∀ w', St w0 F w' L → K w') : LetW (World.drew w) K := hK _ H.drew
theorem wEq {K : Prop} (hK : K) : w = w ∧ K := ⟨rfl, hK⟩
theorem St.take {A B : List Own} (H : St w0 F w L) (ht : Take A L B) : St w0 F w (A ++ B) := H.perm ht.perm
theorem wCall {f : FuncId} {args : Array Value} {A B : List Own} {Q : Value → World → List Own → Prop} {K : Value → World → Prop} (H : St w0 F w L) (hs : Has w A → CallS P f args w A Q)
    (ht : Take A L B := by repeat (first | exact Take.nil _ | (apply Take.cons; (repeat (first | exact Rem.here _ | apply Rem.there)))))
    (hK : ∀ v w' A', Q v w' A' → Fr (fps A) w w' → St w0 F w' (A' ++ B) → K v w') : CallR P f args w K :=
  callS (hs (H.take ht).has.left) H ht.perm hK

omit c e fz a in
theorem nothing_at {E sz : Nat} {x : Option Addr} : SliceAt w E sz (.slice x 0 0) [] := ⟨x, 0, 0, rfl, by simp, by simp, .inl rfl⟩
theorem St.nothing (H : St w0 F w L) (E sz : Nat) (x : Option Addr) : St w0 F w (sliceO E sz (.slice x 0 0) [] :: L) := by
  have h1 : Has w [sliceO E sz (.slice x 0 0) []] := .cons nothing_at (sfp_nodup _) (by intro b hb; cases x <;> simp [sliceO, sfp] at hb) (by simp) (.nil _)
  exact St.step (A := []) (A' := [_]) (B := L) H (.refl _ _) h1 (by intro b hb; cases x <;> simp [sliceO, sfp] at hb)
/-- clear, on cells behind what a slice shows. -/
theorem clear_own {t E ty i m cap n c' : Nat} {z : Value} {x y : Option Addr} {cs : List Value} {K : Value → World → Prop} (ht : P.underlying t = some (.slice E)) (hz : (P.info? E).bind (·.zero) = some z) (hz1 : z.cells = #[z]) (hz2 : z.oneCell' = true)
    (H : St w0 F w L) (hi : L[i]? = some (sliceO E 1 (.slice x m cap) cs)) (hn : m + n ≤ cap) (hy : n = 0 ∨ y = x.map (·.add m))
    (hK : ∀ w', St w0 F w' L → Fr (sfp (.slice x m cap)) w w' → K (.tuple #[]) w') : rRun P (Builtin.clear_ #[t] ty #[.slice y n c']) w K := by
  rcases hy with rfl | rfl
  · refine rRun_intro (w' := w) (v := .tuple #[]) ?_ (hK w H (.refl _ w))
    cases y <;> simp [Builtin.clear_, run_underlying' ht]
  · by_cases hn0 : n = 0
    · subst hn0
      refine rRun_intro (w' := w) (v := .tuple #[]) ?_ (hK w H (.refl _ w))
      cases x <;> simp [Builtin.clear_, run_underlying' ht]
    · obtain ⟨a', len, cp, he, h1, h2, h3⟩ := (H.get hi : SliceAt w E 1 (.slice x m cap) cs)
      cases he
      rcases h3 with h3 | ⟨b, cc, fz', rfl, hblk, hcs, hcells, hfz⟩
      · omega
      have hv : ∀ w, (zeroValue E).run P w = .ok z w := by
        intro w
        cases hI : P.info? E with
        | none => rw [hI] at hz; cases hz
        | some inf =>
          rw [hI] at hz
          simp only [Option.bind_some] at hz
          simp [zeroValue, typeInfo, hI, hz]
      have hr := Lib.run_clear_slice (P := P) w t E ty z ht hv hz1 hz2 b m n c' (by omega)
        (fun j hj => by rw [cell_blk hblk, Array.getElem?_eq_getElem (by omega)]; rfl)
        (fun j hj => by rw [frozen_blk hblk]; exact fzok_get hfz (by omega))
      obtain ⟨cc', hw', hsz', hg'⟩ := setCells_blk (List.replicate n z) m w hblk
      rw [hw'] at hr
      have hfr : Fr (sfp (.slice (some ⟨b, 0, none⟩) m cap)) w (Sh.setBlk w b (.cells cc' E fz')) := by
        obtain ⟨k, rfl⟩ : ∃ k, cap = k + 1 := ⟨cap - 1, by omega⟩
        simpa [sfp] using Fr.setBlk w b (.cells cc' E fz')
      have hadd : (some (⟨b, 0, none⟩ : Addr)).map (·.add m) = some ⟨b, m, none⟩ := by simp [Addr.add_mk]
      rw [hadd]
      refine rRun_intro hr (hK _ ?_ hfr)
      have hset : L.set i (sliceO E 1 (.slice (some ⟨b, 0, none⟩) m cap) cs) = L := by
        apply List.ext_getElem?
        intro q
        rw [List.getElem?_set]
        split
        · rename_i hq; subst hq; rw [hi]; have := (List.getElem?_eq_some_iff.1 hi).1; simp [this]
        · rfl
      rw [← hset]
      refine St.perm ?_ (perm_set _ hi)
      refine St.step (A := [sliceO E 1 (.slice (some ⟨b, 0, none⟩) m cap) cs]) (A' := [sliceO E 1 (.slice (some ⟨b, 0, none⟩) m cap) cs]) (H.perm (perm_front hi)) (by simpa [sliceO] using hfr) ?_ (fun b hb => .inl hb)
      have hat : SliceAt (Sh.setBlk w b (.cells cc' E fz')) E 1 (.slice (some ⟨b, 0, none⟩) m cap) cs := by
        refine ⟨_, _, _, rfl, h1, h2, .inr ⟨b, cc', fz', rfl, heap_setBlk_same (blk_lt hblk), by omega, fun j hj => ?_, hfz⟩⟩
        rw [hg' j, if_neg (by omega)]
        exact hcells j hj
      exact .cons hat (sfp_nodup _) hat.lt (by simp) (.nil _)
/-- The head of a slice that is owned, with the same room. -/
theorem St.head {E sz i n m cap : Nat} {x : Option Addr} {cs : List Value} (H : St w0 F w L) (hi : L[i]? = some (sliceO E sz (.slice x n cap) cs)) (hm : m ≤ n) :
    St w0 F w (L.set i (sliceO E sz (.slice x m cap) (cs.take (m * sz)))) := by
  obtain ⟨a', len, cp, he, h1, h2, h3⟩ := (H.get hi : SliceAt w E sz (.slice x n cap) cs)
  cases he
  have hle : m * sz ≤ n * sz := Nat.mul_le_mul_right _ hm
  have hat : SliceAt w E sz (.slice x m cap) (cs.take (m * sz)) := by
    refine ⟨_, _, _, rfl, by rw [List.length_take]; omega, by omega, ?_⟩
    rcases h3 with h3 | ⟨b, cc, fz', rfl, hblk, hcs, hcells, hfz⟩
    · exact .inl h3
    · refine .inr ⟨b, cc, fz', rfl, hblk, hcs, fun j hj => ?_, hfz⟩
      rw [List.length_take] at hj
      rw [List.getElem?_take_of_lt (by omega)]
      exact hcells j (by omega)
  refine St.perm ?_ (perm_set _ hi)
  have hs : ∀ k, sfp (.slice x k cap) = sfp (.slice x n cap) := by intro k; cases x <;> cases cap <;> simp [sfp]
  refine St.step (A := [sliceO E sz (.slice x n cap) cs]) (A' := [sliceO E sz (.slice x m cap) (cs.take (m * sz))]) (H.perm (perm_front hi)) (.refl _ _) ?_ (fun b hb => .inl ?_)
  · exact .cons hat (sfp_nodup _) hat.lt (by simp) (.nil _)
  · simpa [sliceO, hs m] using hb

omit c e fz a in
theorem addr_add_add (x : Addr) (m n : Nat) : (x.add m).add n = x.add (m + n) := by
  obtain ⟨b, o, s⟩ := x
  simp only [Addr.add]
  by_cases hm : m = 0 <;> by_cases hn : n = 0 <;> simp [hm, hn]
  omega
/-- A part of what is read. -/
theorem Reads.sub {sz l h m n cap : Nat} {x : Option Addr} {cs : List Value} (hr : Reads w sz (.slice x n cap) cs) (hl : l ≤ h) (hh : h ≤ n) (hm : h ≤ m) :
    Reads w sz (.slice (if m = l then x else x.map (·.add (l * sz))) (h - l) (m - l)) ((cs.drop (l * sz)).take ((h - l) * sz)) := by
  obtain ⟨_, _, _, he, h1, h2, h3⟩ := hr
  cases he
  have e1 : h * sz = (h - l) * sz + l * sz := by rw [← Nat.add_mul]; congr 1; omega
  have e2 : h * sz ≤ n * sz := Nat.mul_le_mul_right _ hh
  refine ⟨_, _, _, rfl, by rw [List.length_take, List.length_drop]; omega, by omega, ?_⟩
  by_cases hlh : h = l
  · exact .inl (by omega)
  · rcases h3 with h3 | ⟨ad, rfl, h4⟩
    · omega
    · rw [if_neg (by omega)]
      refine .inr ⟨_, rfl, fun j hj => ?_⟩
      rw [List.length_take, List.length_drop] at hj
      rw [addr_add_add, h4 _ (by omega), List.getElem?_take_of_lt (by omega), List.getElem?_drop]

omit c e fz a in
/-- A part brought to the head. -/
theorem St.front (x : Own) {M : List Own} (H : St w0 F w L) (ht : Rem x L M := by repeat (first | exact .here _ | apply Rem.there)) : St w0 F w (x :: M) := H.perm ht.perm
omit c e fz a in
theorem St.apart {x y : Own} (H : St w0 F w (x :: L)) (hy : y ∈ L) {b : Nat} (hb : b ∈ y.fp) : b ∉ x.fp := fun hx => H.has.apart (L := [x]) (by simpa using hx) (mem_fps.2 ⟨y, hy, hb⟩)

omit c e fz a in
/-- The same blocks, told otherwise. -/
theorem St.recast {x y : Own} (H : St w0 F w (x :: L)) (hfp : y.fp = x.fp) (hh : x.holds w → y.holds w) : St w0 F w (y :: L) := by
  have h0 : Has w [x] := H.has.left (M := L)
  refine St.step (A := [x]) (A' := [y]) H (.refl _ _) ⟨fun o ho => ?_, by simpa [hfp] using h0.nodup, by simpa [hfp] using h0.lt⟩ (fun b hb => .inl (by simpa [hfp] using hb))
  rw [List.mem_singleton.1 ho]
  exact hh (H.has.all x (List.mem_cons_self ..))
omit c e fz a in
theorem St.newMap {κ : Type} {b : Nat} (enc : κ → Value) (H : St w0 F w (pt b (.map #[] 0) :: L)) : St w0 F w (mapO enc b [] :: L) :=
  H.recast rfl fun h => mapAt_new h
theorem wCallV {g : FuncId} {caps : Array Value} {args : List Value} {K : Value → World → Prop} (hc : callable P g = true) (h : CallR P g (args ++ caps.toList).toArray w K) : CallV P (.func (.func g) #[] caps) args w K := by
  simp only [CallV, hc, onlyIf]
  exact h
theorem wIX {E n m i : Nat} {x : Option Addr} {v : Int} {cs : List Value} {K : Addr → Prop} (hs : SliceAt w E 1 (.slice x n m) cs) (hi : i < cs.length) (hv : v = (i : Int)) (hK : ∀ ad, w.cell? ad = cs[i]? → K ad) : IX x n v 1 K := by
  obtain ⟨_, _, _, he, h1, h2, h3⟩ := hs
  cases he
  rcases h3 with h3 | ⟨b, cc, fz', rfl, hblk, hcs, hcells, hfz⟩
  · omega
  · refine ⟨_, rfl, by omega, by omega, hK _ ?_⟩
    have : v.toNat * 1 = i := by omega
    rw [this, Addr.add_mk, Nat.zero_add, cell_blk hblk]
    exact hcells i hi

omit c e fz a in
theorem wIXr {n m i : Nat} {x : Option Addr} {v : Int} {cs : List Value} {K : Addr → Prop} (hs : Reads w 1 (.slice x n m) cs) (hi : i < cs.length) (hv : v = (i : Int)) (hK : ∀ ad, w.cell? ad = cs[i]? → K ad) : IX x n v 1 K := by
  obtain ⟨_, _, _, he, h1, h2, h3⟩ := hs
  cases he
  rcases h3 with h3 | ⟨ad, rfl, h4⟩
  · omega
  · refine ⟨_, rfl, by omega, by omega, hK _ ?_⟩
    have : v.toNat * 1 = i := by omega
    rw [this]
    exact h4 i hi
omit c e fz a in
theorem wLoop {σ : Type} {body : σ → World → (σ → World → Prop) → Prop} {s : σ} (I : Nat → σ → World → Prop) (h0 : ∃ k, I k s w) (h : ∀ k s w, I k s w → body s w fun s' w' => ∃ k', k' < k ∧ I k' s' w') : LoopS body s w := ⟨I, h0, h⟩

omit c e fz a in
/-- A constant's bytes, laid. -/
theorem wALconv {C : Array Value} {t E n m : Nat} {K : Value → World → Prop} (ht : P.underlying t = some (.slice E)) (he : P.underlying E = some (.int .u8)) (H : St w0 F w L)
    (hK : ∀ b w', St w0 F w' (pt b (.cells C E (C.size, C.size + 1)) :: L) → K (.slice (some ⟨b, 0, none⟩) n m) w') :
    AL w (.cells C E) fun b w1 => rRun P (convert t t (.slice (some b) n m)) w1 K :=
  rRun_intro (Lib.run_convert_bytes_const w t E C n m ht he) (hK _ _ (H.alloc _))
omit c e fz a in
/-- Bytes as a text. -/
theorem wConvS {src dst E n m : Nat} {x : Option Addr} {bs : List UInt8} {K : Value → World → Prop} (hr : Reads w 1 (.slice x n m) (bvals bs)) (hs : P.underlying src = some (.slice E)) (he : P.underlying E = some (.int .u8)) (hd : P.underlying dst = some .string)
    (hK : K (.string ⟨bs.toArray⟩) w) : rRun P (convert src dst (.slice x n m)) w K := by
  obtain ⟨_, _, _, he', h1, h2, h3⟩ := hr
  cases he'
  refine rRun_intro (v := .string ⟨bs.toArray⟩) (w' := w) ?_ hK
  rw [run_convert_bytes_string w src dst E x n m hs he hd]
  have hnil : n = 0 → bs = [] := fun h => List.eq_nil_of_length_eq_zero (by simpa [h] using h1.symm)
  have hmap : (bs.map fun b => (b.toNat : Int)).map (Value.int .u8) = bvals bs := by simp [bvals, bval]
  have key : ∀ ad, (∀ j, j < (bvals bs).length → w.cell? (ad.add j) = (bvals bs)[j]?) → (Conv.bytesToString (.slice (some ad) n m)).run P w = .ok (.string ⟨bs.toArray⟩) w := by
    intro ad h4
    have hl : (loadCells ad n).run P w = .ok (bvals bs).toArray w := by
      have := run_loadCells_list (P := P) w ad (bvals bs) (fun j v hj => by
        rw [h4 j (List.getElem?_eq_some_iff.1 hj).1]; exact hj)
      rwa [← h1, Nat.mul_one] at this
    rw [← hmap] at hl
    rw [run_bytesToString w ad n m _ hl, foldl_push_byteCells]
    simp
  rcases h3 with h3 | ⟨ad, rfl, h4⟩
  · have hb := hnil h3
    subst hb h3
    cases x with
    | none => simp [Conv.bytesToString]; rfl
    | some ad => exact key ad (by simp)
  · exact key ad h4

omit c e fz a in
/-- An element of a slice that is owned: where it is. -/
theorem wIXe {E n m i : Nat} {x : Option Addr} {v : Int} {cs : List Value} {K : Addr → Prop} (hs : SliceAt w E 1 (.slice x n m) cs) (hi : i < cs.length) (hv : v = (i : Int)) (hK : ∀ b, x = some ⟨b, 0, none⟩ → w.cell? ⟨b, i, none⟩ = cs[i]? → K ⟨b, i, none⟩) : IX x n v 1 K := by
  obtain ⟨_, _, _, he, h1, h2, h3⟩ := hs
  cases he
  rcases h3 with h3 | ⟨b, cc, fz', rfl, hblk, hcs, hcells, hfz⟩
  · omega
  · refine ⟨_, rfl, by omega, by omega, ?_⟩
    have : v.toNat * 1 = i := by omega
    rw [this, Addr.add_mk, Nat.zero_add]
    exact hK b rfl (by rw [cell_blk hblk]; exact hcells i hi)
omit c e fz a in
/-- A store into an element. -/
theorem wSTe {E n m i b : Nat} {v : Value} {cs : List Value} {K : World → Prop} {M : List Own} (H : St w0 F w L)
    (hu : Upd (sliceO E 1 (.slice (some ⟨b, 0, none⟩) n m) cs) (sliceO E 1 (.slice (some ⟨b, 0, none⟩) n m) (cs.set i v)) L M := by repeat (first | exact .here _ | apply Upd.there))
    (hi : i < cs.length) (hK : ∀ w', St w0 F w' M → K w') : ST w ⟨b, i, none⟩ v K := by
  obtain ⟨q, hq, rfl⟩ := hu.idx
  obtain ⟨_, _, _, he, h1, h2, h3⟩ := (H.get hq : SliceAt w E 1 (.slice (some ⟨b, 0, none⟩) n m) cs)
  cases he
  rcases h3 with h3 | ⟨b', cc, fz', he2, hblk, hcs, hcells, hfz⟩
  · omega
  have hbb : b' = b := by
    have := Option.some.inj he2
    exact (Addr.mk.inj this).1.symm
  subst hbb
  have hic : i < cc.size := by omega
  refine ⟨⟨cc[i], by rw [cell_blk hblk]; simp [hic]⟩, by rw [frozen_blk hblk]; exact fzok_get hfz (by omega), ?_⟩
  rw [setCell_blk hblk]
  refine hK _ (St.perm ?_ (perm_set _ hq))
  obtain ⟨k, rfl⟩ : ∃ k, m = k + 1 := ⟨m - 1, by omega⟩
  refine St.step (A := [sliceO E 1 (.slice (some ⟨b', 0, none⟩) n (k + 1)) cs]) (A' := [sliceO E 1 (.slice (some ⟨b', 0, none⟩) n (k + 1)) (cs.set i v)]) (H.perm (perm_front hq)) (by simpa [sliceO, sfp] using Fr.setBlk w b' _) ?_ (fun b hb => .inl hb)
  have hat : SliceAt (Sh.setBlk w b' (.cells (cc.setIfInBounds i v) E fz')) E 1 (.slice (some ⟨b', 0, none⟩) n (k + 1)) (cs.set i v) := by
    refine ⟨_, _, _, rfl, by simpa using h1, h2, .inr ⟨b', _, fz', rfl, heap_setBlk_same (blk_lt hblk), by simpa using hcs, fun j hj => ?_, hfz⟩⟩
    rw [List.length_set] at hj
    rw [Array.getElem?_setIfInBounds, List.getElem?_set]
    by_cases hij : i = j
    · subst hij; simp [hic, hi]
    · rw [if_neg hij, if_neg hij]; exact hcells j hj
  exact Has.cons (o := sliceO E 1 (.slice (some ⟨b', 0, none⟩) n (k + 1)) (cs.set i v)) hat (sfp_nodup (.slice (some ⟨b', 0, none⟩) n (k + 1))) hat.lt (by simp) (.nil _)

/- Many parts as one. -/
def starO (M : List Own) : Own where
  fp := fps M
  holds w := ∀ o ∈ M, o.holds w
  loc w w' h hw o ho := o.loc w w' (fun b hb => h b (mem_fps.2 ⟨o, ho, hb⟩)) (hw o ho)
theorem fps_star (M L : List Own) : fps (starO M :: L) = fps (M ++ L) := by simp [starO]
theorem St.open {M : List Own} (H : St w0 F w (starO M :: L)) : St w0 F w (M ++ L) := by
  refine ⟨⟨fun o ho => ?_, by rw [← fps_star]; exact H.has.nodup, by rw [← fps_star]; exact H.has.lt⟩, H.fr, by rw [← fps_star]; exact H.own⟩
  rcases List.mem_append.1 ho with ho | ho
  · exact (H.has.all (starO M) (List.mem_cons_self ..) : ∀ o ∈ M, o.holds w) o ho
  · exact H.has.all o (List.mem_cons_of_mem _ ho)
theorem St.close {M : List Own} (H : St w0 F w (M ++ L)) : St w0 F w (starO M :: L) := by
  refine ⟨⟨fun o ho => ?_, by rw [fps_star]; exact H.has.nodup, by rw [fps_star]; exact H.has.lt⟩, H.fr, by rw [fps_star]; exact H.own⟩
  rcases List.mem_cons.1 ho with rfl | ho
  · exact fun o ho => H.has.all o (List.mem_append_left _ ho)
  · exact H.has.all o (List.mem_append_right _ ho)
/-- One of many, taken out; and put in again. -/
theorem St.out {M N : List Own} {x : Own} (H : St w0 F w (starO M :: L)) (h : M.Perm (x :: N)) : St w0 F w (x :: starO N :: L) := by
  have h1 : St w0 F w (x :: (N ++ L)) := H.open.perm (h.append_right L)
  have h2 : St w0 F w (N ++ (x :: L)) := h1.perm List.perm_middle.symm
  exact h2.close.perm (.swap _ _ _)
theorem St.into {M N : List Own} {x : Own} (H : St w0 F w (x :: starO N :: L)) (h : M.Perm (x :: N)) : St w0 F w (starO M :: L) := by
  have h1 : St w0 F w (N ++ (x :: L)) := (H.perm (.swap _ _ _)).open
  have h2 : St w0 F w ((x :: N) ++ L) := h1.perm List.perm_middle
  exact (h2.perm (h.symm.append_right L)).close
end

/-- What a call reads of its caller's memory, beside what it may turn. -/
def Ext (w : World) (A : List Own) (sz : Nat) (v : Value) (cs : List Value) : Prop := Reads w sz v cs ∧ ∀ b ∈ sblk v, b ∉ fps A
theorem Ext.reads {w w' : World} {A : List Own} {sz : Nat} {v : Value} {cs : List Value} (hsz : 0 < sz) (h : Ext w A sz v cs) (hf : Fr (fps A) w w') : Reads w' sz v cs :=
  h.1.of fun b hb => hf.block b (h.1.lt hsz b hb) (h.2 b hb)
theorem sblk_sfp {w : World} {E sz : Nat} {v : Value} {cs : List Value} (h : SliceAt w E sz v cs) : ∀ b ∈ sblk v, b ∈ sfp v := by
  obtain ⟨a, len, cap, rfl, _, h2, _⟩ := h
  intro b hb
  cases a with
  | none => simp [sblk] at hb
  | some a =>
    cases len with
    | zero => simp [sblk] at hb
    | succ n =>
      cases cap with
      | zero => omega
      | succ m => simpa [sblk, sfp] using hb
/-- A slice that the caller owns, beside what it hands over. -/
theorem St.ext {w0 w : World} {F : List Nat} {A B : List Own} {E sz : Nat} {v : Value} {cs : List Value} (H : St w0 F w (A ++ B)) (hm : sliceO E sz v cs ∈ B) : Ext w A sz v cs := by
  have h : SliceAt w E sz v cs := H.has.all _ (List.mem_append_right _ hm)
  exact ⟨h.reads, fun b hb ha => H.has.apart ha (mem_fps.2 ⟨_, hm, sblk_sfp h b hb⟩)⟩

/- Words that hold by themselves. -/
theorem mInt_mk {k : IntKind} {x : Int} {K : Int → Prop} (h : K x) : mInt k (.int k x) K := by
  simp only [mInt, decide_true]; exact h
theorem wrap_id {x : Int} (h1 : -9223372036854775808 ≤ x) (h2 : x < 9223372036854775808) : IntKind.wrap .i64 x = x := by
  simp only [IntKind.wrap, IntKind.bits, IntKind.signed]
  by_cases h : x % 2 ^ 64 ≥ 2 ^ (64 - 1)
  · simp only [h, decide_true, Bool.and_true, if_true]; omega
  · simp only [h, decide_false, Bool.and_false, Bool.false_eq_true, if_false]; omega
theorem wReq {c K : Prop} (hc : c) (h : K) : Req c K := ⟨hc, h⟩
theorem mBool_mk {x : Bool} {K : Bool → Prop} (h : K x) : mBool (.bool x) K := h
theorem mStr_mk {x : ByteArray} {K : ByteArray → Prop} (h : K x) : mStr (.string x) K := h
theorem mPtr_mk {x : Option Addr} {K : Option Addr → Prop} (h : K x) : mPtr (.pointer x) K := h
theorem mPA_mk {x : Addr} {K : Addr → Prop} (h : K x) : mPA (.pointer (some x)) K := h
theorem mMap_mk {x : Option Nat} {K : Option Nat → Prop} (h : K x) : mMap (.map x) K := h
theorem mSlice_mk {x : Option Addr} {n m : Nat} {K : Option Addr → Nat → Nat → Prop} (h : K x n m) : mSlice (.slice x n m) K := h
theorem mTup_mk {l : List Value} {K : List Value → Prop} (h : K l) : mTup (.tuple ⟨l⟩) K := h
theorem mAgg_mk {l : List Value} {K : List Value → Prop} (h : K l) : mAgg (.agg ⟨l⟩) K := h
theorem mCons_mk {x : Value} {l : List Value} {K : Value → List Value → Prop} (h : K x l) : mCons (x :: l) K := h
theorem mNth_mk {x : Value} {K : Value → Prop} : ∀ {l : List Value} {i : Nat}, l[i]? = some x → K x → mNth l i K
  | [], _, hx, _ => by simp at hx
  | y :: _, 0, hx, h => by simp at hx; subst hx; exact h
  | _ :: _, i + 1, hx, h => mNth_mk (i := i) (by simpa using hx) h
theorem mNil_mk {K : Prop} (h : K) : mNil [] K := h
end Go.Sh
