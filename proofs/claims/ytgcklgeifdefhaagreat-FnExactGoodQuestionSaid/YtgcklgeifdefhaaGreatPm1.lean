/- Plain facts on automata. -/
import Derived.Test.YtgcklgeifdefhaaGreatPt1
namespace Go.Pt
structure Ed where
  src : Int
  lt : Int
  dst : Int
deriving Inhabited
structure Au where
  states : Int
  first : List Int
  edges : List Ed
  goals : List (List Int)
deriving Inhabited

/-- Rising numbers below a bound. -/
def riseAt (l : List Int) (n : Int) (i : Nat) : Bool := (decide (0 ≤ l.getD i default) && decide (l.getD i default < n)) && (decide (i = 0) || decide (l.getD (i - 1) default < l.getD i default))
def rising (l : List Int) (n : Int) : Bool := (List.range l.length).all (riseAt l n)
/-- The edges' order. -/
def edLt (a b : Ed) : Bool := if a.src = b.src then (if a.lt = b.lt then decide (a.dst < b.dst) else decide (a.lt < b.lt)) else decide (a.src < b.src)
def edIn (n : Int) (e : Ed) : Bool := (decide (0 ≤ e.src) && decide (e.src < n)) && ((decide (0 ≤ e.dst) && decide (e.dst < n)) && (decide (0 ≤ e.lt) && decide (e.lt < 8)))
def edAt (n : Int) (es : List Ed) (i : Nat) : Bool := edIn n (es.getD i default) && (decide (i = 0) || edLt (es.getD (i - 1) default) (es.getD i default))
def edsOk (n : Int) (es : List Ed) : Bool := (List.range es.length).all (edAt n es)
def goodA (a : Au) : Bool := (decide (1 ≤ a.states) && decide (a.states ≤ 96)) && (rising a.first a.states && (decide (a.edges.length ≤ 2400) && ((decide (a.goals.length ≤ 6) && a.goals.all (fun g => rising g a.states)) && edsOk a.states a.edges)))
end Go.Pt
