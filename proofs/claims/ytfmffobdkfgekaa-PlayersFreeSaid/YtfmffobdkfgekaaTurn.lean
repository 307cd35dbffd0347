/- The book, when one of its maps turns. -/
import Derived.Test.YtfmffobdkfgekaaWhy
set_option linter.unusedVariables false
set_option linter.unusedSimpArgs false
namespace Go.Proofs.Ytfmffobdkfgekaa
open Go.RowKit Go.Maps

def upd {α β : Type} [DecidableEq α] (f : α → β) (x : α) (v : β) : α → β := fun y => if y = x then v else f y
def isMap (w : World) (b : Nat) : Prop := ∃ es cl, w.heap[b]? = some (.map es cl)
theorem MapS.isMap {P : Program} {k : TypeId} {κ α : Type} {C : Codec P k κ} {vv : α → Value} {w : World} {b : Nat} {M : List (κ × α)} (h : MapS C vv w b M) : isMap w b := by
  obtain ⟨es, cl, h1, _⟩ := h; exact ⟨es, cl, h1⟩
theorem Sl.turn {lo b : Nat} {w w' : World} {v : Value} {sz n : Nat} {vs : List Value} (h : Sl lo w v sz n vs) (hm : isMap w b) (ht : Turn b w w') : Sl lo w' v sz n vs := by
  obtain ⟨h1, h2, A, c, h3, h4, h4', h5⟩ := h
  refine ⟨h1, h2, A, c, h3, h4, h4', fun hn => ?_⟩
  obtain ⟨b', o, e1, e2, e3, e4⟩ := h5 hn
  refine ⟨b', o, e1, e2, by rw [ht.size]; exact e3, fun j u hu => ?_⟩
  have hne : b' ≠ b := fun he => by
    subst he
    obtain ⟨es, cl, hb⟩ := hm
    have := e4 j u hu
    simp [World.cell?, hb] at this
  exact (World.cell?_of_block (w := w) (ht.block b' hne)).trans (e4 j u hu)
theorem Lists.turn {lo b : Nat} {w w' : World} {P : List (ByteArray × Value)} {f : ByteArray → List ByteArray} (h : Lists lo w P f) (hm : isMap w b) (ht : Turn b w w') : Lists lo w' P f := fun t => (h t).turn hm ht
theorem Lists.put {lo : Nat} {w : World} {P : List (ByteArray × Value)} {f : ByteArray → List ByteArray} (h : Lists lo w P f) {x : ByteArray} {v : Value} {l : List ByteArray} (hv : Sl lo w v 1 l.length (l.map Value.string)) : Lists lo w (putM P x v) (upd f x l) := fun t => by
  rw [getM_put]
  unfold upd
  by_cases ht : t = x
  · rw [if_pos ht, if_pos ht]; exact hv
  · rw [if_neg ht, if_neg ht]; exact h t
section
variable {lo : Nat} {w w' : World} {kb bp bh bo bd ba : Nat} {K : Book}
theorem BookIn.row_ne (h : BookIn lo w kb bp bh bo bd ba K) {b : Nat} (hm : isMap w b) : kb ≠ b := fun he => by
  subst he
  obtain ⟨es, cl, hb⟩ := hm
  have := h.row
  rw [hb] at this; cases this
theorem BookIn.turnO (h : BookIn lo w kb bp bh bo bd ba K) (ht : Turn bo w w') {M : List (ByteArray × ByteArray)} (hm : MapS strC Value.string w' bo M) {f : ByteArray → ByteArray} (hf : ∀ x, (getM M x).getD noStr = f x) :
    BookIn lo w' kb bp bh bo bd ba { K with owner := f } := by
  have hi : isMap w bo := by obtain ⟨_, o1, _⟩ := h.ow; exact o1.isMap
  have hk := h.row_ne hi
  obtain ⟨h1, h2, h3, ⟨P, p1, p2, p3⟩, ⟨H, q1, q2⟩, ⟨O, o1, o2⟩, ⟨D, d1, d2⟩, ⟨A, a1, a2⟩⟩ := h
  obtain ⟨n1, n2, n3, n4, n5, n6, n7, n8, n9, n10⟩ := id h2
  exact ⟨h1, h2, (ht.block _ hk).trans h3, ⟨P, p1.keep (ht.block _ (by omega)), p2.turn hi ht, p3⟩, ⟨H, q1.keep (ht.block _ (by omega)), q2.turn hi ht⟩, ⟨M, hm, hf⟩, ⟨D, d1.keep (ht.block _ (by omega)), d2⟩, ⟨A, a1.keep (ht.block _ (by omega)), a2⟩⟩
theorem BookIn.turnD (h : BookIn lo w kb bp bh bo bd ba K) (ht : Turn bd w w') {M : List (ByteArray × Int)} (hm : MapS strC (Value.int .i64) w' bd M) {f : ByteArray → Option Int} (hf : ∀ x, getM M x = f x) :
    BookIn lo w' kb bp bh bo bd ba { K with dropped := f } := by
  have hi : isMap w bd := by obtain ⟨_, o1, _⟩ := h.dr; exact o1.isMap
  have hk := h.row_ne hi
  obtain ⟨h1, h2, h3, ⟨P, p1, p2, p3⟩, ⟨H, q1, q2⟩, ⟨O, o1, o2⟩, ⟨D, d1, d2⟩, ⟨A, a1, a2⟩⟩ := h
  obtain ⟨n1, n2, n3, n4, n5, n6, n7, n8, n9, n10⟩ := id h2
  exact ⟨h1, h2, (ht.block _ hk).trans h3, ⟨P, p1.keep (ht.block _ (by omega)), p2.turn hi ht, p3⟩, ⟨H, q1.keep (ht.block _ (by omega)), q2.turn hi ht⟩, ⟨O, o1.keep (ht.block _ (by omega)), o2⟩, ⟨M, hm, hf⟩, ⟨A, a1.keep (ht.block _ (by omega)), a2⟩⟩
theorem BookIn.turnA (h : BookIn lo w kb bp bh bo bd ba K) (ht : Turn ba w w') {M : List ((ByteArray × Int) × Int)} (hm : MapS weekC (Value.int .i64) w' ba M) {f : ByteArray × Int → Int} (hf : ∀ x, (getM M x).getD 0 = f x) :
    BookIn lo w' kb bp bh bo bd ba { K with adds := f } := by
  have hi : isMap w ba := by obtain ⟨_, o1, _⟩ := h.ad; exact o1.isMap
  have hk := h.row_ne hi
  obtain ⟨h1, h2, h3, ⟨P, p1, p2, p3⟩, ⟨H, q1, q2⟩, ⟨O, o1, o2⟩, ⟨D, d1, d2⟩, ⟨A, a1, a2⟩⟩ := h
  obtain ⟨n1, n2, n3, n4, n5, n6, n7, n8, n9, n10⟩ := id h2
  exact ⟨h1, h2, (ht.block _ hk).trans h3, ⟨P, p1.keep (ht.block _ (by omega)), p2.turn hi ht, p3⟩, ⟨H, q1.keep (ht.block _ (by omega)), q2.turn hi ht⟩, ⟨O, o1.keep (ht.block _ (by omega)), o2⟩, ⟨D, d1.keep (ht.block _ (by omega)), d2⟩, ⟨M, hm, hf⟩⟩
theorem BookIn.turnP (h : BookIn lo w kb bp bh bo bd ba K) (ht : Turn bp w w') {M : List (ByteArray × Value)} (hm : MapS strC id w' bp M) {f : ByteArray → List ByteArray} (hf : Lists lo w' M f) :
    BookIn lo w' kb bp bh bo bd ba { K with players := f, teams := M.map Prod.fst } := by
  have hi : isMap w bp := by obtain ⟨_, o1, _⟩ := h.pl; exact o1.isMap
  have hk := h.row_ne hi
  obtain ⟨h1, h2, h3, ⟨P, p1, p2, p3⟩, ⟨H, q1, q2⟩, ⟨O, o1, o2⟩, ⟨D, d1, d2⟩, ⟨A, a1, a2⟩⟩ := h
  obtain ⟨n1, n2, n3, n4, n5, n6, n7, n8, n9, n10⟩ := id h2
  exact ⟨h1, h2, (ht.block _ hk).trans h3, ⟨M, hm, hf, rfl⟩, ⟨H, q1.keep (ht.block _ (by omega)), q2.turn hi ht⟩, ⟨O, o1.keep (ht.block _ (by omega)), o2⟩, ⟨D, d1.keep (ht.block _ (by omega)), d2⟩, ⟨A, a1.keep (ht.block _ (by omega)), a2⟩⟩
theorem BookIn.turnH (h : BookIn lo w kb bp bh bo bd ba K) (ht : Turn bh w w') {M : List (ByteArray × Value)} (hm : MapS strC id w' bh M) {f : ByteArray → List ByteArray} (hf : Lists lo w' M f) :
    BookIn lo w' kb bp bh bo bd ba { K with hurt := f } := by
  have hi : isMap w bh := by obtain ⟨_, o1, _⟩ := h.hu; exact o1.isMap
  have hk := h.row_ne hi
  obtain ⟨h1, h2, h3, ⟨P, p1, p2, p3⟩, ⟨H, q1, q2⟩, ⟨O, o1, o2⟩, ⟨D, d1, d2⟩, ⟨A, a1, a2⟩⟩ := h
  obtain ⟨n1, n2, n3, n4, n5, n6, n7, n8, n9, n10⟩ := id h2
  exact ⟨h1, h2, (ht.block _ hk).trans h3, ⟨P, p1.keep (ht.block _ (by omega)), p2.turn hi ht, p3⟩, ⟨M, hm, hf⟩, ⟨O, o1.keep (ht.block _ (by omega)), o2⟩, ⟨D, d1.keep (ht.block _ (by omega)), d2⟩, ⟨A, a1.keep (ht.block _ (by omega)), a2⟩⟩
end
theorem turn_below {B b : Nat} {a w w' : World} (h : Below B a w) (ht : Turn b w w') (hb : B ≤ b) : Below B a w' :=
  ⟨ht.os.trans h.os, ht.tape.trans h.tape, ht.output.trans h.output, by rw [ht.size]; exact h.size, fun i hi => (ht.block i (by omega)).trans (h.block i hi)⟩
end Go.Proofs.Ytfmffobdkfgekaa
