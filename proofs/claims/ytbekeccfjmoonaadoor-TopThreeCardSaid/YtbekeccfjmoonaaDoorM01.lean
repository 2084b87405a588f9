/- Texts of my own, merged by program: Kc Kd. -/
import Derived.Test.YtbekeccfjmoonaaDoorM00
set_option linter.all false
/- The floors within 4 by 4, 2 of 4 parts: by the kernel. -/
namespace Go.Km

theorem kc0 : all 1024 16384 = true := by decide +kernel
theorem kc1 : all 1024 17408 = true := by decide +kernel
theorem kc2 : all 1024 18432 = true := by decide +kernel
theorem kc3 : all 1024 19456 = true := by decide +kernel
theorem kc4 : all 1024 20480 = true := by decide +kernel
theorem kc5 : all 1024 21504 = true := by decide +kernel
theorem kc6 : all 1024 22528 = true := by decide +kernel
theorem kc7 : all 1024 23552 = true := by decide +kernel
theorem kc8 : all 1024 24576 = true := by decide +kernel
theorem kc9 : all 1024 25600 = true := by decide +kernel
theorem kc10 : all 1024 26624 = true := by decide +kernel
theorem kc11 : all 1024 27648 = true := by decide +kernel
theorem kc12 : all 1024 28672 = true := by decide +kernel
theorem kc13 : all 1024 29696 = true := by decide +kernel
theorem kc14 : all 1024 30720 = true := by decide +kernel
theorem kc15 : all 1024 31744 = true := by decide +kernel
theorem pc (m : Nat) (h1 : 16384 ≤ m) (h2 : m < 32768) : chk m = true := by
  rcases Nat.lt_or_ge m 17408 with h | h
  · exact all_spec 1024 16384 kc0 m (by omega) (by omega)
  rcases Nat.lt_or_ge m 18432 with h | h
  · exact all_spec 1024 17408 kc1 m (by omega) (by omega)
  rcases Nat.lt_or_ge m 19456 with h | h
  · exact all_spec 1024 18432 kc2 m (by omega) (by omega)
  rcases Nat.lt_or_ge m 20480 with h | h
  · exact all_spec 1024 19456 kc3 m (by omega) (by omega)
  rcases Nat.lt_or_ge m 21504 with h | h
  · exact all_spec 1024 20480 kc4 m (by omega) (by omega)
  rcases Nat.lt_or_ge m 22528 with h | h
  · exact all_spec 1024 21504 kc5 m (by omega) (by omega)
  rcases Nat.lt_or_ge m 23552 with h | h
  · exact all_spec 1024 22528 kc6 m (by omega) (by omega)
  rcases Nat.lt_or_ge m 24576 with h | h
  · exact all_spec 1024 23552 kc7 m (by omega) (by omega)
  rcases Nat.lt_or_ge m 25600 with h | h
  · exact all_spec 1024 24576 kc8 m (by omega) (by omega)
  rcases Nat.lt_or_ge m 26624 with h | h
  · exact all_spec 1024 25600 kc9 m (by omega) (by omega)
  rcases Nat.lt_or_ge m 27648 with h | h
  · exact all_spec 1024 26624 kc10 m (by omega) (by omega)
  rcases Nat.lt_or_ge m 28672 with h | h
  · exact all_spec 1024 27648 kc11 m (by omega) (by omega)
  rcases Nat.lt_or_ge m 29696 with h | h
  · exact all_spec 1024 28672 kc12 m (by omega) (by omega)
  rcases Nat.lt_or_ge m 30720 with h | h
  · exact all_spec 1024 29696 kc13 m (by omega) (by omega)
  rcases Nat.lt_or_ge m 31744 with h | h
  · exact all_spec 1024 30720 kc14 m (by omega) (by omega)
  exact all_spec 1024 31744 kc15 m (by omega) (by omega)

end Go.Km

/- The floors within 4 by 4, 3 of 4 parts: by the kernel. -/
namespace Go.Km

theorem kd0 : all 1024 32768 = true := by decide +kernel
theorem kd1 : all 1024 33792 = true := by decide +kernel
theorem kd2 : all 1024 34816 = true := by decide +kernel
theorem kd3 : all 1024 35840 = true := by decide +kernel
theorem kd4 : all 1024 36864 = true := by decide +kernel
theorem kd5 : all 1024 37888 = true := by decide +kernel
theorem kd6 : all 1024 38912 = true := by decide +kernel
theorem kd7 : all 1024 39936 = true := by decide +kernel
theorem kd8 : all 1024 40960 = true := by decide +kernel
theorem kd9 : all 1024 41984 = true := by decide +kernel
theorem kd10 : all 1024 43008 = true := by decide +kernel
theorem kd11 : all 1024 44032 = true := by decide +kernel
theorem kd12 : all 1024 45056 = true := by decide +kernel
theorem kd13 : all 1024 46080 = true := by decide +kernel
theorem kd14 : all 1024 47104 = true := by decide +kernel
theorem kd15 : all 1024 48128 = true := by decide +kernel
theorem pd (m : Nat) (h1 : 32768 ≤ m) (h2 : m < 49152) : chk m = true := by
  rcases Nat.lt_or_ge m 33792 with h | h
  · exact all_spec 1024 32768 kd0 m (by omega) (by omega)
  rcases Nat.lt_or_ge m 34816 with h | h
  · exact all_spec 1024 33792 kd1 m (by omega) (by omega)
  rcases Nat.lt_or_ge m 35840 with h | h
  · exact all_spec 1024 34816 kd2 m (by omega) (by omega)
  rcases Nat.lt_or_ge m 36864 with h | h
  · exact all_spec 1024 35840 kd3 m (by omega) (by omega)
  rcases Nat.lt_or_ge m 37888 with h | h
  · exact all_spec 1024 36864 kd4 m (by omega) (by omega)
  rcases Nat.lt_or_ge m 38912 with h | h
  · exact all_spec 1024 37888 kd5 m (by omega) (by omega)
  rcases Nat.lt_or_ge m 39936 with h | h
  · exact all_spec 1024 38912 kd6 m (by omega) (by omega)
  rcases Nat.lt_or_ge m 40960 with h | h
  · exact all_spec 1024 39936 kd7 m (by omega) (by omega)
  rcases Nat.lt_or_ge m 41984 with h | h
  · exact all_spec 1024 40960 kd8 m (by omega) (by omega)
  rcases Nat.lt_or_ge m 43008 with h | h
  · exact all_spec 1024 41984 kd9 m (by omega) (by omega)
  rcases Nat.lt_or_ge m 44032 with h | h
  · exact all_spec 1024 43008 kd10 m (by omega) (by omega)
  rcases Nat.lt_or_ge m 45056 with h | h
  · exact all_spec 1024 44032 kd11 m (by omega) (by omega)
  rcases Nat.lt_or_ge m 46080 with h | h
  · exact all_spec 1024 45056 kd12 m (by omega) (by omega)
  rcases Nat.lt_or_ge m 47104 with h | h
  · exact all_spec 1024 46080 kd13 m (by omega) (by omega)
  rcases Nat.lt_or_ge m 48128 with h | h
  · exact all_spec 1024 47104 kd14 m (by omega) (by omega)
  exact all_spec 1024 48128 kd15 m (by omega) (by omega)

end Go.Km
