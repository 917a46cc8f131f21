/- Memory in parts: what a call owns, what it leaves as it was, and one law for each word of the shallow text. -/
import Derived.Test.YtnhjcjnjpciifaaDoorShCoreB
namespace Go.Sh
variable {P : Program}

theorem blk_lt {w : World} {b : Nat} {o : Obj} (h : w.heap[b]? = some o) : b < w.heap.size := by
  rcases Nat.lt_or_ge b w.heap.size with h' | h'
  · exact h'
  · rw [Array.getElem?_eq_none h'] at h; cases h

/-- Only the blocks of F may have turned; new ones may have come. -/
structure Fr (F : List Nat) (w w' : World) : Prop where
  os : w'.os = w.os
  tape : w'.tape = w.tape
  output : w'.output = w.output
  size : w.heap.size ≤ w'.heap.size
  block : ∀ b, b < w.heap.size → b ∉ F → w'.heap[b]? = w.heap[b]?
theorem Fr.refl (F : List Nat) (w : World) : Fr F w w := ⟨rfl, rfl, rfl, Nat.le_refl _, fun _ _ _ => rfl⟩
theorem Fr.mono {F G : List Nat} {w w' : World} (h : Fr F w w') (hs : ∀ b ∈ F, b ∈ G) : Fr G w w' :=
  ⟨h.os, h.tape, h.output, h.size, fun b hb hn => h.block b hb fun hf => hn (hs b hf)⟩
/-- Behind a first stretch, a second one that turns only what is in F or is new. -/
theorem Fr.trans' {F G : List Nat} {a b c : World} (h : Fr F a b) (k : Fr G b c) (hs : ∀ x ∈ G, x ∈ F ∨ a.heap.size ≤ x) : Fr F a c :=
  ⟨k.os.trans h.os, k.tape.trans h.tape, k.output.trans h.output, Nat.le_trans h.size k.size, fun x hx hn =>
    (k.block x (Nat.lt_of_lt_of_le hx h.size) fun hg => (hs x hg).elim hn (fun hge => Nat.not_lt.2 hge hx)).trans (h.block x hx hn)⟩
theorem Fr.trans {F : List Nat} {a b c : World} (h : Fr F a b) (k : Fr F b c) : Fr F a c := h.trans' k fun _ hx => .inl hx
theorem Fr.cell {F : List Nat} {w w' : World} (h : Fr F w w') {a : Addr} (hl : a.block < w.heap.size) (hn : a.block ∉ F) : w'.cell? a = w.cell? a := by
  simp only [World.cell?, h.block a.block hl hn]
theorem Fr.below {w w' : World} (h : Fr [] w w') : RowKit.Below w.heap.size w w' := ⟨h.os, h.tape, h.output, h.size, fun b hb => h.block b hb (by simp)⟩

/-- A part of memory: some blocks, and what holds of them. -/
structure Own where
  fp : List Nat
  holds : World → Prop
  loc : ∀ w w', (∀ b ∈ fp, w'.heap[b]? = w.heap[b]?) → holds w → holds w'
def pt (b : Nat) (o : Obj) : Own := ⟨[b], fun w => w.heap[b]? = some o, fun _ _ h hw => (h b (by simp)).trans hw⟩
/-- Something that is no matter of memory. -/
def fact (p : Prop) : Own := ⟨[], fun _ => p, fun _ _ _ h => h⟩
def fps (L : List Own) : List Nat := L.flatMap Own.fp
@[simp] theorem fps_nil : fps [] = [] := rfl
@[simp] theorem fps_cons (o : Own) (L : List Own) : fps (o :: L) = o.fp ++ fps L := rfl
@[simp] theorem fps_append (L M : List Own) : fps (L ++ M) = fps L ++ fps M := by simp [fps]
theorem fps_perm {L M : List Own} (h : L.Perm M) : (fps L).Perm (fps M) := by
  unfold fps
  exact h.flatMap_right _
theorem mem_fps {L : List Own} {b : Nat} : b ∈ fps L ↔ ∃ o ∈ L, b ∈ o.fp := by simp [fps]

structure Has (w : World) (L : List Own) : Prop where
  all : ∀ o ∈ L, o.holds w
  nodup : (fps L).Nodup
  lt : ∀ b ∈ fps L, b < w.heap.size
theorem Has.perm {w : World} {L M : List Own} (h : Has w L) (hp : L.Perm M) : Has w M :=
  ⟨fun o ho => h.all o (hp.mem_iff.2 ho), (fps_perm hp).nodup_iff.1 h.nodup, fun b hb => h.lt b ((fps_perm hp).mem_iff.2 hb)⟩
theorem Has.left {w : World} {L M : List Own} (h : Has w (L ++ M)) : Has w L :=
  ⟨fun o ho => h.all o (List.mem_append_left _ ho), by have := h.nodup; rw [fps_append] at this; exact (List.nodup_append.1 this).1,
    fun b hb => h.lt b (by rw [fps_append]; exact List.mem_append_left _ hb)⟩
theorem Has.right {w : World} {L M : List Own} (h : Has w (L ++ M)) : Has w M :=
  ⟨fun o ho => h.all o (List.mem_append_right _ ho), by have := h.nodup; rw [fps_append] at this; exact (List.nodup_append.1 this).2.1,
    fun b hb => h.lt b (by rw [fps_append]; exact List.mem_append_right _ hb)⟩
theorem Has.apart {w : World} {L M : List Own} (h : Has w (L ++ M)) {b : Nat} (h1 : b ∈ fps L) (h2 : b ∈ fps M) : False := by
  have := h.nodup
  rw [fps_append] at this
  exact (List.nodup_append.1 this).2.2 b h1 b h2 rfl
theorem Has.nil (w : World) : Has w [] := ⟨fun _ h => (by cases h), (by simp), fun _ h => (by simp at h)⟩
theorem Has.cons {w : World} {o : Own} {L : List Own} (ho : o.holds w) (hn : o.fp.Nodup) (hl : ∀ b ∈ o.fp, b < w.heap.size) (hd : ∀ b ∈ o.fp, b ∉ fps L) (h : Has w L) : Has w (o :: L) := by
  refine ⟨fun x hx => ?_, ?_, fun b hb => ?_⟩
  · rcases List.mem_cons.1 hx with rfl | hx
    · exact ho
    · exact h.all x hx
  · rw [fps_cons, List.nodup_append]
    exact ⟨hn, h.nodup, fun a ha b hb e => hd a ha (e ▸ hb)⟩
  · rw [fps_cons, List.mem_append] at hb
    exact hb.elim (hl b) (h.lt b)
/-- A stretch that turns only A: what is beside it stays. -/
theorem Has.step {w w' : World} {A A' B : List Own} (h : Has w (A ++ B)) (hf : Fr (fps A) w w') (h' : Has w' A') (hn : ∀ b ∈ fps A', b ∈ fps A ∨ w.heap.size ≤ b) : Has w' (A' ++ B) := by
  have hb : ∀ b ∈ fps B, w'.heap[b]? = w.heap[b]? := fun b hb => hf.block b (h.lt b (by rw [fps_append]; exact List.mem_append_right _ hb)) fun ha => h.apart ha hb
  refine ⟨fun o ho => ?_, ?_, fun b hb' => ?_⟩
  · rcases List.mem_append.1 ho with ho | ho
    · exact h'.all o ho
    · exact o.loc w w' (fun b hbo => hb b (mem_fps.2 ⟨o, ho, hbo⟩)) (h.all o (List.mem_append_right _ ho))
  · rw [fps_append, List.nodup_append]
    refine ⟨h'.nodup, h.right.nodup, fun a ha b hbb e => ?_⟩
    subst e
    rcases hn a ha with hx | hx
    · exact h.apart hx hbb
    · exact Nat.not_lt.2 hx (h.right.lt a hbb)
  · rw [fps_append] at hb'
    rcases List.mem_append.1 hb' with hb' | hb'
    · exact h'.lt b hb'
    · exact Nat.lt_of_lt_of_le (h.right.lt b hb') hf.size

/-- The state within a call that began in w0 and may turn F: what it holds now. -/
structure St (w0 : World) (F : List Nat) (w : World) (L : List Own) : Prop where
  has : Has w L
  fr : Fr F w0 w
  own : ∀ b ∈ fps L, b ∈ F ∨ w0.heap.size ≤ b
section
variable {w0 w : World} {F : List Nat} {L : List Own}
theorem St.init {w : World} {L : List Own} (h : Has w L) : St w (fps L) w L := ⟨h, .refl _ _, fun _ hb => .inl hb⟩
theorem St.init' {w : World} {L : List Own} {F : List Nat} (h : Has w L) (hF : ∀ b ∈ fps L, b ∈ F) : St w F w L := ⟨h, .refl _ _, fun b hb => .inl (hF b hb)⟩
theorem St.perm {M : List Own} (h : St w0 F w L) (hp : L.Perm M) : St w0 F w M := ⟨h.has.perm hp, h.fr, fun b hb => h.own b ((fps_perm hp).mem_iff.2 hb)⟩
theorem St.left {M : List Own} (h : St w0 F w (L ++ M)) : St w0 F w L := ⟨h.has.left, h.fr, fun b hb => h.own b (by rw [fps_append]; exact List.mem_append_left _ hb)⟩
theorem St.right {M : List Own} (h : St w0 F w (L ++ M)) : St w0 F w M := ⟨h.has.right, h.fr, fun b hb => h.own b (by rw [fps_append]; exact List.mem_append_right _ hb)⟩
theorem St.tail {o : Own} (h : St w0 F w (o :: L)) : St w0 F w L := St.right (L := [o]) h
theorem St.step {w' : World} {A A' B : List Own} (h : St w0 F w (A ++ B)) (hf : Fr (fps A) w w') (h' : Has w' A') (hn : ∀ b ∈ fps A', b ∈ fps A ∨ w.heap.size ≤ b) : St w0 F w' (A' ++ B) := by
  refine ⟨h.has.step hf h' hn, h.fr.trans' hf (fun x hx => h.own x (by rw [fps_append]; exact List.mem_append_left _ hx)), fun b hb => ?_⟩
  rw [fps_append] at hb
  rcases List.mem_append.1 hb with hb | hb
  · rcases hn b hb with hx | hx
    · exact h.own b (by rw [fps_append]; exact List.mem_append_left _ hx)
    · exact .inr (Nat.le_trans h.fr.size hx)
  · exact h.own b (by rw [fps_append]; exact List.mem_append_right _ hb)
theorem St.get (h : St w0 F w L) {i : Nat} {o : Own} (hi : L[i]? = some o) : o.holds w := h.has.all o (List.mem_of_getElem? hi)
theorem St.blk (h : St w0 F w L) {i b : Nat} {o : Obj} (hi : L[i]? = some (pt b o)) : w.heap[b]? = some o := h.get hi

theorem Fr.drew (F : List Nat) (w : World) : Fr F w w.drew := ⟨rfl, rfl, rfl, Nat.le_refl _, fun _ _ _ => rfl⟩
theorem Has.heap {w w' : World} (h : Has w L) (hh : w'.heap = w.heap) : Has w' L :=
  ⟨fun o ho => o.loc w w' (fun b _ => by rw [hh]) (h.all o ho), h.nodup, fun b hb => by rw [hh]; exact h.lt b hb⟩
theorem St.drew (h : St w0 F w L) : St w0 F w.drew L := ⟨h.has.heap rfl, h.fr.trans (.drew F w), h.own⟩
theorem Fr.alloc (F : List Nat) (w : World) (o : Obj) : Fr F w (w.alloc o) :=
  ⟨rfl, rfl, rfl, by simp, fun b hb _ => RowKit.Below.heap_alloc w o b hb⟩
theorem heap_alloc_new (w : World) (o : Obj) : (w.alloc o).heap[w.heap.size]? = some o := by
  show (w.heap.push o)[w.heap.size]? = some o
  simp
theorem St.alloc (h : St w0 F w L) (o : Obj) : St w0 F (w.alloc o) (pt w.heap.size o :: L) := by
  have h1 : Has (w.alloc o) [pt w.heap.size o] := by
    refine .cons (heap_alloc_new w o) (by simp [pt]) ?_ (by simp) (.nil _)
    intro b hb
    simp only [pt, List.mem_singleton] at hb
    subst hb; simp
  exact St.step (A := []) (A' := [pt w.heap.size o]) (B := L) h (by simpa using Fr.alloc [] w o) h1 (fun b hb => .inr (by
    simp only [fps_cons, fps_nil, List.append_nil, pt, List.mem_singleton] at hb; omega))

/-- A block turned. -/
def setBlk (w : World) (b : Nat) (o : Obj) : World := { w with heap := w.heap.setIfInBounds b o }
theorem heap_setBlk_same {w : World} {b : Nat} {o : Obj} (h : b < w.heap.size) : (setBlk w b o).heap[b]? = some o := by simp [setBlk, h]
theorem heap_setBlk_ne {w : World} {b c : Nat} {o : Obj} (h : c ≠ b) : (setBlk w b o).heap[c]? = w.heap[c]? := by
  simp only [setBlk]
  rw [Array.getElem?_setIfInBounds_ne (Ne.symm h)]
theorem Fr.setBlk (w : World) (b : Nat) (o : Obj) : Fr [b] w (setBlk w b o) :=
  ⟨rfl, rfl, rfl, by simp [Sh.setBlk], fun c _ hn => heap_setBlk_ne (by simpa using hn)⟩
theorem St.set1 {b : Nat} {o : Obj} (h : St w0 F w (pt b o :: L)) (o' : Obj) : St w0 F (Sh.setBlk w b o') (pt b o' :: L) := by
  have hlt : b < w.heap.size := h.has.lt b (by simp [pt])
  refine St.step (A := [pt b o]) (A' := [pt b o']) (B := L) h (by simpa [pt] using Fr.setBlk w b o') ?_ (fun c hc => .inl (by simpa [pt] using hc))
  refine .cons (heap_setBlk_same hlt) (by simp [pt]) ?_ (by simp) (.nil _)
  intro c hc
  simp only [pt, List.mem_singleton] at hc
  subst hc; simpa [Sh.setBlk] using hlt
theorem perm_front {α : Type} {L : List α} {i : Nat} {x : α} (h : L[i]? = some x) : L.Perm (x :: L.eraseIdx i) := by
  induction L generalizing i with
  | nil => simp at h
  | cons y t ih =>
    cases i with
    | zero => simp at h; subst h; simp
    | succ i =>
      simp only [List.getElem?_cons_succ] at h
      exact ((ih h).cons y).trans (.swap x y _)
theorem perm_set {α : Type} {L : List α} {i : Nat} {x : α} (y : α) (h : L[i]? = some x) : (y :: L.eraseIdx i).Perm (L.set i y) := by
  induction L generalizing i with
  | nil => simp at h
  | cons z t ih =>
    cases i with
    | zero => simp
    | succ i =>
      simp only [List.getElem?_cons_succ] at h
      simp only [List.eraseIdx_cons_succ, List.set_cons_succ]
      exact (List.Perm.swap z y _).trans ((ih h).cons z)
theorem St.set (h : St w0 F w L) {i b : Nat} {o : Obj} (hi : L[i]? = some (pt b o)) (o' : Obj) : St w0 F (Sh.setBlk w b o') (L.set i (pt b o')) :=
  ((h.perm (perm_front hi)).set1 o').perm (perm_set _ hi)
theorem setCell_blk {w : World} {b j : Nat} {c : Array Value} {e : TypeId} {fz : Nat × Nat} (h : w.heap[b]? = some (.cells c e fz)) (v : Value) :
    w.setCell ⟨b, j, none⟩ v = Sh.setBlk w b (.cells (c.setIfInBounds j v) e fz) := by
  have hlt := blk_lt h
  simp only [World.setCell, Sh.setBlk]
  congr 1
  apply Array.ext_getElem?
  intro k
  rw [Array.getElem?_modify, Array.getElem?_setIfInBounds]
  by_cases hk : b = k
  · subst hk
    have : b < w.heap.size := hlt
    simp only [if_pos, h, Option.map_some, this]
    rfl
  · simp [hk]
theorem cell_blk {w : World} {b j : Nat} {c : Array Value} {e : TypeId} {fz : Nat × Nat} (h : w.heap[b]? = some (.cells c e fz)) : w.cell? ⟨b, j, none⟩ = c[j]? := by
  simp [World.cell?, h]
theorem frozen_blk {w : World} {b j : Nat} {c : Array Value} {e : TypeId} {fz : Nat × Nat} (h : w.heap[b]? = some (.cells c e fz)) : w.frozen? ⟨b, j, none⟩ = (decide (fz.1 ≤ j) && decide (j < fz.2)) := by
  obtain ⟨lo, hi⟩ := fz
  simp only [World.frozen?, h]

/- One law for each word. -/
theorem al {o : Obj} {K : Addr → World → Prop} (H : St w0 F w L) (hK : ∀ b w', w'.heap[b]? = some o → Fr [] w w' → St w0 F w' (pt b o :: L) → K ⟨b, 0, none⟩ w') : AL w o K :=
  hK _ _ (heap_alloc_new w o) (Fr.alloc [] w o) (H.alloc o)
theorem alm {o : Obj} {K : Nat → World → Prop} (H : St w0 F w L) (hK : ∀ b w', w'.heap[b]? = some o → Fr [] w w' → St w0 F w' (pt b o :: L) → K b w') : ALM w o K :=
  hK _ _ (heap_alloc_new w o) (Fr.alloc [] w o) (H.alloc o)
theorem lw {K : World → Prop} (H : St w0 F w L) (hK : ∀ w', w'.heap = w.heap → St w0 F w' L → K w') : LetW (World.drew w) K := hK _ rfl H.drew
theorem ldI {k : IntKind} {a : Addr} {x : Int} {K : Int → Prop} (hc : w.cell? a = some (.int k x)) (hK : K x) : LDI k w a K := ⟨x, hc, hK⟩
theorem ldB {a : Addr} {x : Bool} {K : Bool → Prop} (hc : w.cell? a = some (.bool x)) (hK : K x) : LDB w a K := ⟨x, hc, hK⟩
theorem ldS {a : Addr} {x : ByteArray} {K : ByteArray → Prop} (hc : w.cell? a = some (.string x)) (hK : K x) : LDS w a K := ⟨x, hc, hK⟩
theorem ldP {a : Addr} {x : Option Addr} {K : Option Addr → Prop} (hc : w.cell? a = some (.pointer x)) (hK : K x) : LDP w a K := ⟨x, hc, hK⟩
theorem ldM {a : Addr} {x : Option Nat} {K : Option Nat → Prop} (hc : w.cell? a = some (.map x)) (hK : K x) : LDM w a K := ⟨x, hc, hK⟩
theorem ldSl {a : Addr} {b : Option Addr} {l c : Nat} {K : Option Addr → Nat → Nat → Prop} (hc : w.cell? a = some (.slice b l c)) (hK : K b l c) : LDSl w a K := ⟨b, l, c, hc, hK⟩
theorem ldV {a : Addr} {v : Value} {K : Value → Prop} (hc : w.cell? a = some v) (hK : K v) : LD w a K := ⟨v, hc, hK⟩
/-- The cell at a place in a block that is held. -/
theorem St.cell (H : St w0 F w L) (i j : Nat) {b : Nat} {c : Array Value} {e : TypeId} {fz : Nat × Nat} {v : Value} (hi : L[i]? = some (pt b (.cells c e fz))) (hv : c[j]? = some v) :
    w.cell? ⟨b, j, none⟩ = some v := by rw [cell_blk (H.blk hi)]; exact hv
theorem st {a : Addr} {v : Value} {K : World → Prop} (H : St w0 F w L) (i j : Nat) {b : Nat} {c : Array Value} {e : TypeId} {fz : Nat × Nat} (hi : L[i]? = some (pt b (.cells c e fz)))
    (ha : a = ⟨b, j, none⟩) (hj : j < c.size) (hf : (decide (fz.1 ≤ j) && decide (j < fz.2)) = false)
    (hK : ∀ w', St w0 F w' (L.set i (pt b (.cells (c.setIfInBounds j v) e fz))) → Fr [b] w w' → K w') : ST w a v K := by
  subst ha
  have hb := H.blk hi
  refine ⟨⟨c[j], by rw [cell_blk hb]; simp [hj]⟩, by rw [frozen_blk hb]; exact hf, ?_⟩
  rw [setCell_blk hb]
  exact hK _ (H.set hi _) (Fr.setBlk w b _)
theorem br {c : Bool} {A B : Prop} (h1 : c = true → A) (h2 : c = false → B) : Br c A B := ⟨h1, h2⟩
theorem nn {a : Addr} {K : Addr → Prop} (h : K a) : NN (some a) K := h

/- What a call asks and leaves. -/
def CallS (P : Program) (f : FuncId) (args : Array Value) (w : World) (A : List Own) (Q : Value → World → List Own → Prop) : Prop :=
  CallR P f args w fun v w' => ∃ A', Q v w' A' ∧ Has w' A' ∧ Fr (fps A) w w' ∧ ∀ b ∈ fps A', b ∈ fps A ∨ w.heap.size ≤ b
theorem callS {f : FuncId} {args : Array Value} {A B : List Own} {Q : Value → World → List Own → Prop} {K : Value → World → Prop} (hs : CallS P f args w A Q) (H : St w0 F w L) (hp : L.Perm (A ++ B))
    (hK : ∀ v w' A', Q v w' A' → Fr (fps A) w w' → St w0 F w' (A' ++ B) → K v w') : CallR P f args w K :=
  CallR_mono hs fun v w' ⟨A', hq, hh, hf, hn⟩ => hK v w' A' hq hf ((H.perm hp).step hf hh hn)
/-- How a call's own proof begins and ends. -/
theorem CallS_intro {f : FuncId} {args : Array Value} {A : List Own} {Q : Value → World → List Own → Prop} (hA : Has w A)
    (h : St w (fps A) w A → CallR P f args w fun v w' => ∃ A', Q v w' A' ∧ St w (fps A) w' A') : CallS P f args w A Q :=
  CallR_mono (h (.init hA)) fun _ _ ⟨A', hq, hst⟩ => ⟨A', hq, hst.has, hst.fr, hst.own⟩
end

end Go.Sh
