/-
  Chapter 24: FilterPasses, its ways. Own work; nothing here is trusted.
-/
import Derived.Test.YtgepgnjjhgmfnaaCh24Pas1a
import Derived.Test.YtgepgnjjhgmfnaaCh24Pas1b
import Derived.Test.YtgepgnjjhgmfnaaCh24Pas1c
import Derived.Test.YtgepgnjjhgmfnaaCh24Pas1d
import Derived.Test.YtgepgnjjhgmfnaaCh24Pas1e
import Derived.Test.YtgepgnjjhgmfnaaCh24Pas1f
