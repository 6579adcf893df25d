/- The masks of states and the laws' own helpers over slices of states together. -/
import Derived.Test.YtlbhfjbbkkkldaaF
import Derived.Test.YtlbhfjbbkkkldaaGs
