/- The plain law of package rope: lengths; what a motion does. -/
import Derived.Test.YtdddfajchkmehaaW3
namespace Go.Proofs.Ytdddfajchkmehaa
theorem moved_length (x : Line) (d : Int) : (moved x d).load.length = x.load.length := by simp [moved]
theorem moved_len (x : Line) (d : Int) : (moveOf x d).1.load.length ≤ x.load.length := by
  unfold moveOf
  split
  · simp [moved]
  · simp [Line.zero]
theorem load_len (x : Line) (i n seats : Int) : (loadOf x i n seats).1.load.length ≤ x.load.length := by
  unfold loadOf
  split
  · split
    · split
      · simp [putL]
      · simp [Line.zero]
    · simp [Line.zero]
  · simp [Line.zero]
theorem take_len (x : Line) (i n : Int) : (takeOf x i n).1.load.length ≤ x.load.length := by
  unfold takeOf
  split
  · split
    · simp [putL]
    · simp [Line.zero]
  · simp [Line.zero]
end Go.Proofs.Ytdddfajchkmehaa
