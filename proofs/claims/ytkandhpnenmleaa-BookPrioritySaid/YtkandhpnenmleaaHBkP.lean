/- book: orders, trades, books, plain. -/
import Derived.Test.YtkandhpnenmleaaHBase

namespace Go.Proofs.Ytkandhpnenmleaa
open Go.RowKit

structure Ord where
  id : Int
  acc : Int
  buy : Bool
  price : Int
  n : Int
  left : Int
def Ord.cells (x : Ord) : List Value := [.int .i64 x.id, .int .i64 x.acc, .bool x.buy, .int .i64 x.price, .int .i64 x.n, .int .i64 x.left]
theorem Ord.cells_length (x : Ord) : x.cells.length = 6 := rfl
def ord0 : Ord := ⟨0, 0, false, 0, 0, 0⟩
def ordAt (os : List Ord) (i : Nat) : Ord := (os[i]?).getD ord0
theorem ordAt_eq {os : List Ord} {i : Nat} (h : i < os.length) : ordAt os i = os[i] := by unfold ordAt; rw [List.getElem?_eq_getElem h]; rfl
structure Trd where
  buy : Int
  sell : Int
  price : Int
  n : Int
def Trd.cells (x : Trd) : List Value := [.int .i64 x.buy, .int .i64 x.sell, .int .i64 x.price, .int .i64 x.n]
theorem Trd.cells_length (x : Trd) : x.cells.length = 4 := rfl
/-- Is x better than y, of the orders that buy, or of those that sell? -/
def betterB (buy : Bool) (x y : Ord) : Bool := if buy then decide (y.price < x.price) || (decide (x.price = y.price) && decide (x.id < y.id)) else decide (x.price < y.price) || (decide (x.price = y.price) && decide (x.id < y.id))
def acceptsB (x y : Ord) : Bool := if x.buy then decide (y.price ≤ x.price) else decide (x.price ≤ y.price)
/-- The place of an order among open ones: that of the first one that is not better. -/
def placeN (os : List Ord) (l : List Nat) (o : Ord) : Nat := l.findIdx fun id => !betterB o.buy (ordAt os id) o
def SortedB (os : List Ord) (buy : Bool) (l : List Nat) : Prop := l.Pairwise fun a b => betterB buy (ordAt os a) (ordAt os b) = true
def Ord.less (x : Ord) (m : Int) : Ord := ⟨x.id, x.acc, x.buy, x.price, x.n, x.left - m⟩
def trdOf (o y : Ord) (m : Int) : Trd := if o.buy then ⟨o.id, y.id, y.price, m⟩ else ⟨y.id, o.id, y.price, m⟩
/-- What Place's loop makes of the open orders of the opposite side: the trades, the order, all orders, the side. -/
def matchP : List Ord → Ord → List Nat → List Trd × Ord × List Ord × List Nat
  | os, o, [] => ([], o, os, [])
  | os, o, id :: t =>
    if 0 < o.left ∧ acceptsB o (ordAt os id) = true then
      if (ordAt os id).acc = o.acc then matchP os o t
      else if (ordAt os id).left - min o.left (ordAt os id).left = 0 then
        (trdOf o (ordAt os id) (min o.left (ordAt os id).left) :: (matchP (os.set id ((ordAt os id).less (min o.left (ordAt os id).left))) (o.less (min o.left (ordAt os id).left)) t).1, (matchP (os.set id ((ordAt os id).less (min o.left (ordAt os id).left))) (o.less (min o.left (ordAt os id).left)) t).2)
      else ([trdOf o (ordAt os id) (min o.left (ordAt os id).left)], o.less (min o.left (ordAt os id).left), os.set id ((ordAt os id).less (min o.left (ordAt os id).left)), id :: t)
    else ([], o, os, id :: t)
/-- A book: all orders, the open ones that buy, those that sell. -/
structure BkS where
  os : List Ord
  bs : List Nat
  ss : List Nat
def BkS.side (b : BkS) (buy : Bool) : List Nat := if buy then b.bs else b.ss
def BkS.put (b : BkS) (buy : Bool) (l : List Nat) : BkS := if buy then ⟨b.os, l, b.ss⟩ else ⟨b.os, b.bs, l⟩
def BkS.setOs (b : BkS) (os : List Ord) : BkS := ⟨os, b.bs, b.ss⟩
def inR (n : Int) : Bool := decide (1 ≤ n) && decide (n ≤ 1099511627776)
def placeErr (b : BkS) (acc price n : Int) : Int :=
  if acc < 1 ∨ 1073741824 < acc then 1
  else if inR price = false ∨ inR n = false ∨ (1099511627776 : Int).tdiv n < price then 5
  else if 4096 ≤ b.bs.length + b.ss.length then 4 else 0
/-- Open an order. -/
def BkS.opened (b : BkS) (o : Ord) : BkS := b.put o.buy ((b.side o.buy).take (placeN b.os (b.side o.buy) o) ++ [o.id.toNat] ++ (b.side o.buy).drop (placeN b.os (b.side o.buy) o))
def placeS (b : BkS) (acc : Int) (buy : Bool) (price n : Int) : List Trd × BkS :=
  let r := matchP b.os ⟨b.os.length, acc, buy, price, n, n⟩ (b.side !buy)
  let c : BkS := (b.put (!buy) r.2.2.2).setOs (r.2.2.1 ++ [r.2.1])
  (r.1, if 0 < r.2.1.left then c.opened r.2.1 else c)
/-- An order that was among the open ones. -/
def BkS.ended (b : BkS) (o : Ord) : BkS := b.put o.buy ((b.side o.buy).eraseIdx (placeN b.os (b.side o.buy) o))
def isOpenB (b : BkS) (o : Ord) : Bool := (b.side o.buy)[placeN b.os (b.side o.buy) o]? == some o.id.toNat
def cancelE (b : BkS) (acc id : Int) : Int × Int × BkS :=
  if id < 0 ∨ (b.os.length : Int) ≤ id then (0, 7, b)
  else if isOpenB b (ordAt b.os id.toNat) = false then (0, 7, b)
  else if (ordAt b.os id.toNat).acc ≠ acc then (0, 15, b)
  else ((ordAt b.os id.toNat).left, 0, b.ended (ordAt b.os id.toNat))
/-- The sound books. -/
structure BkS.Ok (b : BkS) : Prop where
  ids : ∀ k : Nat, k < b.os.length → (ordAt b.os k).id = (k : Int)
  rng : ∀ k : Nat, k < b.os.length → 1 ≤ (ordAt b.os k).price ∧ (ordAt b.os k).price ≤ 1099511627776 ∧ 1 ≤ (ordAt b.os k).n ∧ (ordAt b.os k).n ≤ 1099511627776 ∧ 0 ≤ (ordAt b.os k).left ∧ (ordAt b.os k).left ≤ (ordAt b.os k).n ∧ 1 ≤ (ordAt b.os k).acc ∧ (ordAt b.os k).acc ≤ 1073741824 ∧ (ordAt b.os k).price * (ordAt b.os k).n ≤ 1099511627776
  mem : ∀ (buy : Bool) (k : Nat), k ∈ b.side buy → k < b.os.length ∧ (ordAt b.os k).buy = buy ∧ 0 < (ordAt b.os k).left
  sorted : ∀ buy : Bool, SortedB b.os buy (b.side buy)
  few : b.bs.length + b.ss.length ≤ 4096
end Go.Proofs.Ytkandhpnenmleaa
