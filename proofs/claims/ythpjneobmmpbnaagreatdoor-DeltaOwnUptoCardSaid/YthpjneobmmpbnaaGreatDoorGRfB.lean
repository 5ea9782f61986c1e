/- The walks of the document's named and great of a transaction. Condition: bulk at most 2^20. -/
import Derived.Test.YthpjneobmmpbnaaGreatDoorGRf3
import Derived.Test.YthpjneobmmpbnaaGreatDoorGDltF
import Derived.Test.YthpjneobmmpbnaaGreatDoorGRefS
