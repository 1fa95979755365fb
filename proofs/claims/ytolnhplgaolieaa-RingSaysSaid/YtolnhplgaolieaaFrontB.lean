/- A block of bytes that a call turns, and the builtin copy within it. -/
import Derived.Test.YtolnhplgaolieaaFront0
import Derived.Test.YtolnhplgaolieaaBlk
import Derived.Laws.CopyOwn
namespace Go.Proofs.Ytolnhplgaolieaa
open Go.RowKit
/-- Block g is these bytes. -/
def BB (w : World) (g : Nat) (x : List UInt8) : Prop := Blk w g 5 (byteCells x).toArray
theorem byteCells_len (x : List UInt8) : (byteCells x).length = x.length := by simp [byteCells]
theorem byteCells_get (x : List UInt8) {k : Nat} (h : k < x.length) : (byteCells x)[k]? = some (.int .u8 ((x.getD k 0).toNat : Int)) := by
  rw [byteCells, List.getElem?_map, List.getD_eq_getElem?_getD, List.getElem?_eq_getElem h]; rfl
theorem byteCells_one (x : List UInt8) : ∀ v ∈ byteCells x, v.oneCell' = true := fun v h => by
  obtain ⟨b, _, rfl⟩ := List.mem_map.1 h; rfl
section
variable {w w' : World} {g k : Nat} {x : List UInt8}
theorem BB.at_ (h : BB w g x) (hk : k < x.length) : w.cell? ⟨g, k, none⟩ = some (.int .u8 ((x.getD k 0).toNat : Int)) := by
  rw [Blk.cell h k, List.getElem?_toArray, byteCells_get x hk]
theorem BB.set_ (h : BB w g x) (k : Nat) (b : UInt8) : BB (w.setCell ⟨g, k, none⟩ (.int .u8 (b.toNat : Int))) g (x.set k b) := by
  have := Blk.set_ h k (.int .u8 (b.toNat : Int))
  unfold BB
  rw [show (byteCells (x.set k b)).toArray = (byteCells x).toArray.setIfInBounds k (.int .u8 (b.toNat : Int)) from by simp [byteCells, List.map_set]]
  exact this
theorem BB.below (h : BB w g x) (hb : Below w.heap.size w w') : BB w' g x := Blk.below' h hb
theorem BB.kept {row : Option Nat} (h : BB w g x) (hb : w.grownBy w' row) (hg : some g ≠ row) : BB w' g x := Blk.grown h hb hg
theorem BB.free (h : BB w g x) (k : Nat) : w.frozen? ⟨g, k, none⟩ = false := Blk.frozen h k
end
theorem gb_setRow (w : World) (g : Nat) (cs : Array Value) : w.grownBy (w.setRow g cs) (some g) :=
  ⟨rfl, rfl, rfl, by simp [World.setRow], fun k _ hk => setRow_other w g k cs (fun e => hk (by rw [e]))⟩
/-- copy within or into a known block: that block alone turns. -/
theorem wpList_copy_gb {P : Program} {w : World} {ops : Array Oper} {rest : List Oper} {o : Oper} {a : Act} {Q : Exit → Act → World → Prop} (hgd : o.guard = none) (d s : Operand) (dT sT : TypeId)
    (ho : o.op = .call { callee := .builtin .copy, args := #[d, s], argTypes := #[dT, sT] }) (elem : TypeId) (hu : P.underlying dT = some (.slice elem)) (hsz : (P.info? elem).map (·.size) = some 1)
    (dp sp : Option Addr) (dLen dCap sLen sCap : Nat) (hd : a.eval d = .slice dp dLen dCap) (hs : a.eval s = .slice sp sLen sCap)
    (g off : Nat) (cur : List Value) (t : TypeId) (hg : Blk w g t cur.toArray) (cs : List Value) (hn : cs.length = Nat.min sLen dLen)
    (hpos : 0 < cs.length → dp = some ⟨g, off, none⟩ ∧ ∃ ad, sp = some ad ∧ ∀ j v, cs[j]? = some v → w.cell? (ad.add j) = some v)
    (hfit : off + cs.length ≤ cur.length) (h1 : ∀ v ∈ cs, v.oneCell' = true)
    (h : ∀ w', Blk w' g t (splice cur off cs).toArray → w.grownBy w' (some g) → wpList P ops Q rest (a.put o.dst (goInt cs.length)) w') :
    wpList P ops Q (o :: rest) a w := by
  by_cases h0 : cs.length = 0
  · obtain rfl : cs = [] := List.eq_nil_of_length_eq_zero h0
    refine wpList_copy_nothing hgd d s dT sT ho elem hu hsz dp sp dLen dCap sLen sCap hd hs (by simpa using hn.symm) ?_
    exact h w (show w.heap[g]? = _ by simpa [splice, Blk] using hg) (gb_refl _ _)
  · obtain ⟨rfl, ad, rfl, hsrc⟩ := hpos (by omega)
    refine wpList_copy_own hgd d s dT sT ho elem hu hsz g off dLen dCap ad sLen sCap hd hs cur.toArray t hg cs hn hsrc (by simpa using hfit) h1 ?_
    exact h _ (show _ = _ by simpa [splice] using setRow_heap w g _ _ t _ hg) (gb_setRow _ _ _)
/-- What take leaves. -/
theorem front_cells (x : List UInt8) (k : Nat) (h : k < x.length) : (splice (byteCells x) 1 ((byteCells x).take k)).toArray.setIfInBounds 0 (.int .u8 ((x.getD k 0).toNat : Int)) = (byteCells (frontK x k)).toArray := by
  cases x with
  | nil => simp at h
  | cons a r =>
    have hl : ((byteCells (a :: r)).take k).length = k := by rw [List.length_take, byteCells_len]; omega
    unfold splice
    rw [hl, List.setIfInBounds_toArray]
    congr 1
    unfold frontK
    simp only [byteCells, List.map_cons, List.map_append, List.map_take, List.map_drop]
    simp [Nat.add_comm]
end Go.Proofs.Ytolnhplgaolieaa
