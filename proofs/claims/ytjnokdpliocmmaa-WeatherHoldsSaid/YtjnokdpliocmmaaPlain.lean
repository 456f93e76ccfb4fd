/- The plain law of package weather, without any program. -/
namespace Go.Proofs.Ytjnokdpliocmmaa
structure Obs where
  station : Int
  at_ : Int
  gust : Int
  temp : Int
  hum : Int
  snow : Int
theorem Obs.ext_ {x y : Obs} (h0 : x.station = y.station) (h1 : x.at_ = y.at_) (h2 : x.gust = y.gust) (h3 : x.temp = y.temp) (h4 : x.hum = y.hum) (h5 : x.snow = y.snow) : x = y := by
  cases x; cases y; simp_all
def Obs.zero : Obs := ⟨0, 0, 0, 0, 0, 0⟩
def Obs.row (x : Obs) : List Int := [x.station, x.at_, x.gust, x.temp, x.hum, x.snow]
structure Val where
  v : Int
  t : Int
theorem Val.ext_ {x y : Val} (h0 : x.v = y.v) (h1 : x.t = y.t) : x = y := by
  cases x; cases y; simp_all
def Val.zero : Val := ⟨0, 0⟩
def Val.row (x : Val) : List Int := [x.v, x.t]
structure Itv where
  from_ : Int
  to_ : Int
theorem Itv.ext_ {x y : Itv} (h0 : x.from_ = y.from_) (h1 : x.to_ = y.to_) : x = y := by
  cases x; cases y; simp_all
def Itv.zero : Itv := ⟨0, 0⟩
def Itv.row (x : Itv) : List Int := [x.from_, x.to_]
structure Alarm where
  on : Int
  off : Int
  hold : Int
  active : Bool
  low : Int
def inW (n a b : Int) : Bool := decide (a ≤ n ∧ n ≤ b)
def inR (x : Obs) : Bool := decide (1 ≤ x.station ∧ x.station ≤ 9999 ∧ 0 ≤ x.at_ ∧ x.at_ ≤ 20000000 ∧ 0 ≤ x.gust ∧ x.gust ≤ 100000 ∧ -600 ≤ x.temp ∧ x.temp ≤ 600 ∧ 0 ≤ x.hum ∧ x.hum ≤ 1000 ∧ 0 ≤ x.snow ∧ x.snow ≤ 2000)
/-- an earlier observation of the same station and time -/
def twice (pre : List Obs) (x : Obs) : Bool := pre.any fun y => decide (y.station = x.station ∧ y.at_ = x.at_)
def sooner (pre : List Obs) (x : Obs) : Bool := match pre.getLast? with
  | none => false
  | some y => decide (x.at_ < y.at_)
def errAt (pre : List Obs) (x : Obs) : Int := if inR x then (if sooner pre x then 11 else if twice pre x then 7 else 0) else 2
def rightGo : List Obs → List Obs → Int
  | _, [] => 0
  | pre, x :: r => if errAt pre x = 0 then rightGo (pre ++ [x]) r else errAt pre x
def rightOf (l : List Obs) : Int := if 1000 < l.length then 4 else rightGo [] l
theorem rightGo_step {l : List Obs} {k : Nat} (hk : k < l.length) : rightGo (l.take k) (l.drop k) = if errAt (l.take k) l[k] = 0 then rightGo (l.take (k + 1)) (l.drop (k + 1)) else errAt (l.take k) l[k] := by
  rw [List.drop_eq_getElem_cons hk, rightGo, List.take_succ_eq_append_getElem hk]
theorem rightGo_end (l : List Obs) : rightGo (l.take l.length) (l.drop l.length) = 0 := by rw [List.drop_length]; rfl
theorem sooner_zero {l : List Obs} (x : Obs) : sooner (l.take 0) x = false := rfl
theorem sooner_succ {l : List Obs} {k : Nat} (hk : k < l.length) (x : Obs) : sooner (l.take (k + 1)) x = decide (x.at_ < l[k].at_) := by
  unfold sooner
  rw [List.take_succ_eq_append_getElem hk, List.getLast?_append]
  rfl
theorem twice_succ {l : List Obs} {k : Nat} (hk : k < l.length) (x : Obs) : twice (l.take (k + 1)) x = (twice (l.take k) x || decide (l[k].station = x.station ∧ l[k].at_ = x.at_)) := by
  unfold twice
  rw [List.take_succ_eq_append_getElem hk, List.any_append]
  simp
def countsOf (x : Obs) (s : Int) (p : Itv) : Bool := decide (x.station = s ∧ p.from_ ≤ x.at_ ∧ x.at_ < p.to_)
def freshOf (l : List Obs) (s : Int) (p : Itv) : Int := (l.map fun x => if countsOf x s p then x.snow else 0).sum
def peakStep (s : Int) (p : Itv) (m : Int × Bool) (x : Obs) : Int × Bool := if countsOf x s p && (!m.2 || decide (m.1 < x.gust)) then (x.gust, true) else m
def peakGo (l : List Obs) (s : Int) (p : Itv) : Int × Bool := l.foldl (peakStep s p) (-1, false)
def peakOf (l : List Obs) (s : Int) (p : Itv) : Int := (peakGo l s p).1
def lastOf (l : List Obs) (s t : Int) : Option Obs := l.reverse.find? fun x => decide (x.station = s ∧ x.at_ ≤ t)
def wetOf (temp hum : Int) : Int × Int := if -600 ≤ temp ∧ temp ≤ 600 ∧ 0 ≤ hum ∧ hum ≤ 1000 then (temp - (1000 - hum) * max 0 (temp + 300) / 6000, 0) else (0, 2)
def updOf (a : Alarm) (v t : Int) : Alarm × Int :=
  if 0 ≤ a.off ∧ a.off ≤ a.on ∧ 0 ≤ a.hold ∧ a.hold ≤ 86400 ∧ 0 ≤ v ∧ 0 ≤ t ∧ t ≤ 20000000 ∧ a.low ≤ t then
    (if a.on ≤ v then ({ a with active := true, low := -1 }, 0)
     else if a.off ≤ v then ({ a with low := -1 }, 0)
     else if a.hold ≤ t - (if a.low < 0 then t else a.low) then ({ a with active := false, low := if a.low < 0 then t else a.low }, 0)
     else ({ a with low := if a.low < 0 then t else a.low }, 0))
  else (a, 2)
end Go.Proofs.Ytjnokdpliocmmaa
