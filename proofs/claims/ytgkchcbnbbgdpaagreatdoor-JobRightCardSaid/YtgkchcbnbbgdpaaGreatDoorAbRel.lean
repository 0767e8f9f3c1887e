/- How the abstract heap stands to the world. -/
import Derived.Test.YtgkchcbnbbgdpaaGreatDoorAbComp
import Derived.Below
import Derived.Deep.AppendSrc
import Derived.Laws.CopyRow
namespace Go.Ab

/-- Where an abstract block lies: its block, its first cell, how many cells the block has. -/
structure Loc where
  blk : Nat
  base : Nat
  size : Nat

abbrev Ren := Nat → Option Loc

/-- An abstract value stands for a value. -/
inductive VR (σ : Ren) : AV → Value → Prop
  | bool (b : Bool) : VR σ (.bool b) (.bool b)
  | int (k : IntKind) (n : Int) : VR σ (.int k n) (.int k n)
  | str (s : ByteArray) : VR σ (.str (s.data.toList.map (·.toNat))) (.string s)
  | pnil : VR σ .pnil (.pointer none)
  | ptr {b o : Nat} {L : Loc} (h : σ b = some L) : VR σ (.ptr b o) (.pointer (some ⟨L.blk, L.base + o, none⟩))
  | snil : VR σ .snil (.slice none 0 0)
  | sl {b o len z off c : Nat} {cap : Option Nat} {L : Loc} (h : σ b = some L) (hl : len ≤ c) (hc : ∀ k, cap = some k → k = c) (hz : 0 < z) (hs : off + c * z ≤ L.size)
      (ho : c = 0 ∨ off = L.base + o) : VR σ (.sl b o len cap z) (.slice (some ⟨L.blk, off, none⟩) len c)
  | map {b : Nat} {L : Loc} (h : σ b = some L) : VR σ (.map b) (.map (some L.blk))
  | mnil : VR σ .mnil (.map none)
  | fnil : VR σ .fnil .nilFunc
  | inil : VR σ .inil .nilIface
  | fn {f : FuncId} {fst cap : List AV} {fst' cap' : Array Value} (h1 : fst.length = fst'.size) (h2 : ∀ (i : Nat) (v : AV) (v' : Value), fst[i]? = some v → fst'[i]? = some v' → VR σ v v')
      (h3 : cap.length = cap'.size) (h4 : ∀ (i : Nat) (v : AV) (v' : Value), cap[i]? = some v → cap'[i]? = some v' → VR σ v v') : VR σ (.fn f fst cap) (.func (.func f) fst' cap')
  | ifc {t : TypeId} {v : AV} {v' : Value} (h : VR σ v v') : VR σ (.ifc t v) (.iface t v')
  | agg {cs : List AV} {ds : Array Value} (h1 : cs.length = ds.size) (h2 : ∀ (i : Nat) (v : AV) (v' : Value), cs[i]? = some v → ds[i]? = some v' → VR σ v v') : VR σ (.agg cs) (.agg ds)
  | tup {cs : List AV} {ds : Array Value} (h1 : cs.length = ds.size) (h2 : ∀ (i : Nat) (v : AV) (v' : Value), cs[i]? = some v → ds[i]? = some v' → VR σ v v') : VR σ (.tup cs) (.tuple ds)
  | any (v : Value) : VR σ .any v

/-- Two rows of values. -/
def LR (σ : Ren) (l : List AV) (l' : List Value) : Prop := l.length = l'.length ∧ ∀ (i : Nat) (v : AV) (v' : Value), l[i]? = some v → l'[i]? = some v' → VR σ v v'

def Le (σ σ' : Ren) : Prop := ∀ b L, σ b = some L → σ' b = some L
theorem Le.refl (σ : Ren) : Le σ σ := fun _ _ h => h
theorem Le.trans {a b c : Ren} (h : Le a b) (k : Le b c) : Le a c := fun x L e => k x L (h x L e)

theorem VR.mono {σ σ' : Ren} (hle : Le σ σ') {v : AV} {v' : Value} (h : VR σ v v') : VR σ' v v' := by
  induction h with
  | bool b => exact .bool b
  | int k n => exact .int k n
  | str s => exact .str s
  | pnil => exact .pnil
  | ptr h => exact .ptr (hle _ _ h)
  | snil => exact .snil
  | sl h a b c d e => exact .sl (hle _ _ h) a b c d e
  | map h => exact .map (hle _ _ h)
  | mnil => exact .mnil
  | fnil => exact .fnil
  | inil => exact .inil
  | fn h1 _ h3 _ ih1 ih2 => exact .fn h1 ih1 h3 ih2
  | ifc _ ih => exact .ifc ih
  | agg h1 _ ih => exact .agg h1 ih
  | tup h1 _ ih => exact .tup h1 ih
  | any v => exact .any v

theorem LR.mono {σ σ' : Ren} (hle : Le σ σ') {l : List AV} {l' : List Value} (h : LR σ l l') : LR σ' l l' := ⟨h.1, fun i v v' a b => (h.2 i v v' a b).mono hle⟩
theorem LR.nil (σ : Ren) : LR σ [] [] := ⟨rfl, fun i v v' a => by simp at a⟩
theorem LR.cons {σ : Ren} {v : AV} {v' : Value} {l : List AV} {l' : List Value} (h : VR σ v v') (hl : LR σ l l') : LR σ (v :: l) (v' :: l') := by
  refine ⟨by simp [hl.1], fun i a b ha hb => ?_⟩
  cases i with
  | zero => simp at ha hb; subst ha; subst hb; exact h
  | succ i => simp at ha hb; exact hl.2 i a b ha hb
theorem LR.one {σ : Ren} {v : AV} {v' : Value} (h : VR σ v v') : LR σ [v] [v'] := .cons h (.nil σ)
theorem LR.cons_inv {σ : Ren} {v : AV} {l : List AV} {l' : List Value} (h : LR σ (v :: l) l') : ∃ v' r, l' = v' :: r ∧ VR σ v v' ∧ LR σ l r := by
  cases l' with
  | nil => simp [LR] at h
  | cons v' r =>
    refine ⟨v', r, rfl, h.2 0 v v' rfl rfl, by have := h.1; simp at this; exact this, fun i a b ha hb => h.2 (i + 1) a b (by simpa using ha) (by simpa using hb)⟩
theorem LR.nil_inv {σ : Ren} {l' : List Value} (h : LR σ [] l') : l' = [] := List.eq_nil_of_length_eq_zero h.1.symm
theorem LR.append {σ : Ren} {a b : List AV} {a' b' : List Value} (h : LR σ a a') (k : LR σ b b') : LR σ (a ++ b) (a' ++ b') := by
  refine ⟨by simp [h.1, k.1], fun i v v' hv hv' => ?_⟩
  by_cases hi : i < a.length
  · rw [List.getElem?_append_left hi] at hv
    rw [List.getElem?_append_left (by rw [← h.1]; exact hi)] at hv'
    exact h.2 i v v' hv hv'
  · rw [List.getElem?_append_right (by omega)] at hv
    rw [List.getElem?_append_right (by rw [← h.1]; omega), ← h.1] at hv'
    exact k.2 _ v v' hv hv'
theorem LR.take {σ : Ren} {a : List AV} {a' : List Value} (h : LR σ a a') (n : Nat) : LR σ (a.take n) (a'.take n) := by
  refine ⟨by simp [h.1], fun i v v' hv hv' => ?_⟩
  rw [List.getElem?_take] at hv hv'
  split at hv
  · rename_i hi; rw [if_pos hi] at hv'; exact h.2 i v v' hv hv'
  · simp at hv
theorem LR.drop {σ : Ren} {a : List AV} {a' : List Value} (h : LR σ a a') (n : Nat) : LR σ (a.drop n) (a'.drop n) := by
  refine ⟨by simp [h.1], fun i v v' hv hv' => ?_⟩
  rw [List.getElem?_drop] at hv hv'
  exact h.2 _ v v' hv hv'
theorem LR.splice {σ : Ren} {a v : List AV} {a' v' : List Value} (h : LR σ a a') (k : LR σ v v') (o : Nat) : LR σ (splice a o v) (a'.take o ++ v' ++ a'.drop (o + v'.length)) := by
  unfold Ab.splice
  rw [← k.1]
  exact ((h.take o).append k).append (h.drop _)
theorem LR.get {σ : Ren} {a : List AV} {a' : List Value} (h : LR σ a a') {i : Nat} {v : AV} (hv : a[i]? = some v) : ∃ v', a'[i]? = some v' ∧ VR σ v v' := by
  have hi : i < a.length := by
    rcases Nat.lt_or_ge i a.length with h | h
    · exact h
    · rw [List.getElem?_eq_none h] at hv; cases hv
  have hi' : i < a'.length := by rw [← h.1]; exact hi
  exact ⟨a'[i], List.getElem?_eq_getElem hi', h.2 i v _ hv (List.getElem?_eq_getElem hi')⟩
theorem LR.replicate {σ : Ren} {z : List AV} {z' : List Value} (h : LR σ z z') (n : Nat) : LR σ (repA n z) (List.replicate n z').flatten := by
  induction n with
  | zero => simpa [repA] using LR.nil σ
  | succ n ih =>
    have : repA (n + 1) z = z ++ repA n z := by simp [repA, List.replicate_succ]
    rw [this, List.replicate_succ, List.flatten_cons]
    exact h.append ih
theorem LR.map_ev {σ : Ren} {α : Type} (f : α → AV) (g : α → Value) (l : List α) (h : ∀ x ∈ l, VR σ (f x) (g x)) : LR σ (l.map f) (l.map g) := by
  induction l with
  | nil => exact .nil σ
  | cons x l ih => exact .cons (h x (by simp)) (ih fun y hy => h y (by simp [hy]))

theorem VR.of_agg {σ : Ren} {cs : List AV} {v' : Value} (h : VR σ (.agg cs) v') : ∃ ds, v' = .agg ds ∧ LR σ cs ds.toList := by
  cases h with
  | agg h1 h2 => exact ⟨_, rfl, by simpa using h1, fun i v v' a b => h2 i v v' a (by simpa using b)⟩
theorem VR.mk_agg {σ : Ren} {cs : List AV} {ds : List Value} (h : LR σ cs ds) : VR σ (.agg cs) (.agg ds.toArray) :=
  .agg (by simpa using h.1) fun i v v' a b => h.2 i v v' a (by simpa using b)
theorem VR.mk_agg' {σ : Ren} {cs : List AV} {ds : Array Value} (h : LR σ cs ds.toList) : VR σ (.agg cs) (.agg ds) :=
  .agg (by simpa using h.1) fun i v v' a b => h.2 i v v' a (by simpa using b)
theorem VR.mk_tup {σ : Ren} {cs : List AV} {ds : List Value} (h : LR σ cs ds) : VR σ (.tup cs) (.tuple ds.toArray) :=
  .tup (by simpa using h.1) fun i v v' a b => h.2 i v v' a (by simpa using b)

/-- The cells of a value, of which something is known. -/
theorem VR.cells {σ : Ren} {v : AV} {v' : Value} (h : VR σ v v') (hv : ∀ ds, v' = .agg ds → ∃ cs, v = .agg cs) : LR σ v.cells v'.cells.toList := by
  cases h with
  | agg h1 h2 => exact ⟨by simpa [AV.cells, Value.cells] using h1, fun i v v' a b => h2 i v v' (by simpa [AV.cells] using a) (by simpa [Value.cells] using b)⟩
  | any => cases v' <;> first | exact .one (.any _) | (obtain ⟨cs, hc⟩ := hv _ rfl; cases hc)
  | ifc h => exact .one (.ifc h)
  | fn a b c d => exact .one (.fn a b c d)
  | tup a b => exact .one (.tup a b)
  | bool b => exact .one (.bool b)
  | int k n => exact .one (.int k n)
  | str s => exact .one (.str s)
  | pnil => exact .one .pnil
  | ptr h => exact .one (.ptr h)
  | snil => exact .one .snil
  | sl a b c d e f => exact .one (.sl a b c d e f)
  | map h => exact .one (.map h)
  | mnil => exact .one .mnil
  | fnil => exact .one .fnil
  | inil => exact .one .inil

theorem VR.oneCell {σ : Ren} {v : AV} {v' : Value} (h : VR σ v v') (hk : cellOk v = true) : v'.oneCell' = true := by
  cases h <;> first | rfl | cases hk

theorem LR.oneCell {σ : Ren} : ∀ {l : List AV} {l' : List Value}, LR σ l l' → cellsOk l = true → ∀ v ∈ l', v.oneCell' = true := by
  intro l
  induction l with
  | nil => intro l' h _ v hv; rw [h.nil_inv] at hv; cases hv
  | cons a l ih =>
    intro l' h hk v hv
    obtain ⟨b, r, rfl, hab, hr⟩ := h.cons_inv
    have h1 : cellOk a = true := by
      cases e : cellOk a with
      | true => rfl
      | false => simp [cellsOk, e] at hk
    have h2 : cellsOk l = true := by simpa [cellsOk, h1] using hk
    rcases List.mem_cons.1 hv with rfl | hv
    · exact hab.oneCell h1
    · exact ih hr h2 v hv

/-- A block stands for what lies in the world. -/
def BR (σ : Ren) (x : Bk) (L : Loc) (w : World) : Prop :=
  match x with
  | .cells own cs => ∃ arr e fr, w.heap[L.blk]? = some (.cells arr e fr) ∧ (arr.size = L.size ∧ L.base + cs.length ≤ L.size) ∧ LR σ cs ((arr.toList.drop L.base).take cs.length) ∧ (own = true → fr = (0, 0))
  | .map es c => ∃ es' : Array MapEntry, w.heap[L.blk]? = some (.map es' c) ∧ es'.size = es.length ∧
      ∀ (i : Nat) (e : ME) (e' : MapEntry), es[i]? = some e → es'[i]? = some e' → VR σ e.key e'.key ∧ VR σ e.val e'.val ∧ e.born = e'.born

def Own (h : H) (b : Nat) : Prop := (∃ cs, h.get b = some (.cells true cs)) ∨ (∃ es c, h.get b = some (.map es c))

structure HR (σ : Ren) (h : H) (w : World) : Prop where
  bnd : ∀ b L, σ b = some L → L.blk < w.heap.size
  blk : ∀ b x L, h.get b = some x → σ b = some L → BR σ x L w
  inj : ∀ b b' L L', b ≠ b' → Own h b → (h.get b').isSome = true → σ b = some L → σ b' = some L' → L.blk ≠ L'.blk
  nx : ∀ b, (h.get b).isSome = true → b < h.next

/-- What has become of heap and world. -/
structure Ext (σ σ' : Ren) (h h' : H) (w w' : World) : Prop where
  next : h.next ≤ h'.next
  out : ∀ b, ¬ (h.next ≤ b ∧ b < h'.next) → σ' b = σ b
  fresh : ∀ b, h.next ≤ b → b < h'.next → σ b = none
  os : w'.os = w.os
  tape : w'.tape = w.tape
  output : w'.output = w.output
  size : w.heap.size ≤ w'.heap.size
  keep : ∀ c, c < w.heap.size → (∀ b L, Own h b → σ b = some L → L.blk ≠ c) → w'.heap[c]? = w.heap[c]?
  own : ∀ b L, Own h' b → σ' b = some L → w.heap.size ≤ L.blk ∨ ∃ b0 L0, Own h b0 ∧ σ b0 = some L0 ∧ L0.blk = L.blk
  live : ∀ b L, (h'.get b).isSome = true → σ' b = some L → w.heap.size ≤ L.blk ∨ ∃ b0 L0, (h.get b0).isSome = true ∧ σ b0 = some L0 ∧ L0.blk = L.blk

theorem Ext.refl (σ : Ren) (h : H) (w : World) : Ext σ σ h h w w :=
  ⟨Nat.le_refl _, fun _ _ => rfl, fun b h1 h2 => absurd h2 (by omega), rfl, rfl, rfl, Nat.le_refl _, fun _ _ _ => rfl, fun b L ho hs => .inr ⟨b, L, ho, hs, rfl⟩, fun b L ho hs => .inr ⟨b, L, ho, hs, rfl⟩⟩

theorem Ext.le {σ σ' : Ren} {h h' : H} {w w' : World} (e : Ext σ σ' h h' w w') : Le σ σ' := by
  intro b L hb
  by_cases hr : h.next ≤ b ∧ b < h'.next
  · rw [e.fresh b hr.1 hr.2] at hb; cases hb
  · rw [e.out b hr]; exact hb

theorem Ext.trans {σ σ1 σ2 : Ren} {h h1 h2 : H} {w w1 w2 : World} (a : Ext σ σ1 h h1 w w1) (b : Ext σ1 σ2 h1 h2 w1 w2) : Ext σ σ2 h h2 w w2 := by
  refine ⟨Nat.le_trans a.next b.next, fun x hx => ?_, fun x h1' h2' => ?_, b.os.trans a.os, b.tape.trans a.tape, b.output.trans a.output, Nat.le_trans a.size b.size, fun c hc hn => ?_, fun x L ho hs => ?_, fun x L ho hs => ?_⟩
  · rw [b.out x (fun hh => hx ⟨Nat.le_trans a.next hh.1, hh.2⟩), a.out x (fun hh => hx ⟨hh.1, Nat.lt_of_lt_of_le hh.2 b.next⟩)]
  · by_cases hlt : x < h1.next
    · exact a.fresh x h1' hlt
    · have h3 := b.fresh x (by omega) h2'
      rw [a.out x (fun hh => hlt hh.2)] at h3
      exact h3
  · have h1' := a.keep c hc hn
    rw [← h1']
    refine b.keep c (Nat.lt_of_lt_of_le hc a.size) (fun x L ho hs => ?_)
    rcases a.own x L ho hs with h2' | ⟨b0, L0, ho0, hs0, he⟩
    · omega
    · rw [← he]; exact hn b0 L0 ho0 hs0
  · rcases b.own x L ho hs with h2' | ⟨b0, L0, ho0, hs0, he⟩
    · exact .inl (Nat.le_trans a.size h2')
    · rcases a.own b0 L0 ho0 hs0 with h3 | ⟨b1, L1, ho1, hs1, he1⟩
      · exact .inl (by rw [← he]; exact h3)
      · exact .inr ⟨b1, L1, ho1, hs1, he1.trans he⟩
  · rcases b.live x L ho hs with h2' | ⟨b0, L0, ho0, hs0, he⟩
    · exact .inl (Nat.le_trans a.size h2')
    · rcases a.live b0 L0 ho0 hs0 with h3 | ⟨b1, L1, ho1, hs1, he1⟩
      · exact .inl (by rw [← he]; exact h3)
      · exact .inr ⟨b1, L1, ho1, hs1, he1.trans he⟩

/-- A draw alone. -/
theorem Ext.drew {σ : Ren} {h : H} {w : World} : Ext σ σ h h w w.drew :=
  ⟨Nat.le_refl _, fun _ _ => rfl, fun b h1 h2 => absurd h2 (by omega), rfl, rfl, rfl, Nat.le_refl _, fun _ _ _ => rfl, fun b L ho hs => .inr ⟨b, L, ho, hs, rfl⟩, fun b L ho hs => .inr ⟨b, L, ho, hs, rfl⟩⟩
theorem BR.heap {σ : Ren} {x : Bk} {L : Loc} {w w' : World} (h : BR σ x L w) (e : w'.heap[L.blk]? = w.heap[L.blk]?) : BR σ x L w' := by
  cases x with
  | cells own cs => obtain ⟨arr, t, fr, h1, h2, h3, h4⟩ := h; exact ⟨arr, t, fr, e ▸ h1, h2, h3, h4⟩
  | map es c => obtain ⟨es', h1, h2, h3⟩ := h; exact ⟨es', e ▸ h1, h2, h3⟩
theorem BR.mono {σ σ' : Ren} (hle : Le σ σ') {x : Bk} {L : Loc} {w : World} (h : BR σ x L w) : BR σ' x L w := by
  cases x with
  | cells own cs => obtain ⟨arr, t, fr, h1, h2, h3, h4⟩ := h; exact ⟨arr, t, fr, h1, h2, h3.mono hle, h4⟩
  | map es c => obtain ⟨es', h1, h2, h3⟩ := h; exact ⟨es', h1, h2, fun i e e' a b => let ⟨x, y, z⟩ := h3 i e e' a b; ⟨x.mono hle, y.mono hle, z⟩⟩
theorem HR.drew {σ : Ren} {h : H} {w : World} (r : HR σ h w) : HR σ h w.drew := ⟨r.bnd, fun b x L a c => (r.blk b x L a c).heap rfl, r.inj, r.nx⟩

theorem H.get_new (h : H) (x : Bk) (b : Nat) : (h.new x).get b = if b = h.next then some x else h.get b := by simp [H.get, H.new, Tr.get_set]
theorem H.get_put (h : H) (c : Nat) (x : Option Bk) (b : Nat) : (h.put c x).get b = if b = c then x else h.get b := by simp [H.get, H.put, Tr.get_set]
theorem H.next_new (h : H) (x : Bk) : (h.new x).next = h.next + 1 := rfl
theorem H.next_put (h : H) (c : Nat) (x : Option Bk) : (h.put c x).next = h.next := rfl

def setR (σ : Ren) (b : Nat) (L : Loc) : Ren := fun c => if c = b then some L else σ c
theorem setR_same (σ : Ren) (b : Nat) (L : Loc) : setR σ b L b = some L := by simp [setR]
theorem setR_ne (σ : Ren) {b c : Nat} (L : Loc) (h : c ≠ b) : setR σ b L c = σ c := by simp [setR, h]
theorem setR_le (σ : Ren) {b : Nat} (L : Loc) (h : σ b = none) : Le σ (setR σ b L) := by
  intro c M hc
  by_cases e : c = b
  · subst e; rw [h] at hc; cases hc
  · rw [setR_ne σ L e]; exact hc

theorem heap_push_old (w : World) (o : Obj) (k : Nat) (h : k < w.heap.size) : (w.alloc o).heap[k]? = w.heap[k]? := RowKit.Below.heap_alloc w o k h
end Go.Ab
